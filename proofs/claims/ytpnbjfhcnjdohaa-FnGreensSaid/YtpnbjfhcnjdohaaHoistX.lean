/- the greatest of a list against a bound -/
import Derived.Test.YtpnbjfhcnjdohaaPlain
import Derived.Test.YtpnbjfhcnjdohaaMaxMin
namespace Go.Proofs.Ytpnbjfhcnjdohaa
open Plain
theorem max_all {so : List Int} {P : Int} (hn : 0 < so.length) : so.all (fun x => decide (x ≤ P)) = decide (maxTo so so.length ≤ P) := by
  have key : ∀ k, k < so.length → ((so.take (k + 1)).all (fun x => decide (x ≤ P)) = decide (maxTo so (k + 1) ≤ P)) := by
    intro k
    induction k with
    | zero =>
      intro hk
      rw [List.take_add_one, List.getElem?_eq_getElem hk]
      simp [maxTo, List.getD_eq_getElem?_getD, List.getElem?_eq_getElem hk]
    | succ k ih =>
      intro hk
      have h1 := ih (by omega)
      rw [List.take_add_one, List.getElem?_eq_getElem hk, List.all_append, h1]
      have e : maxTo so (k + 1 + 1) = max (maxTo so (k + 1)) (so[k + 1]) := by
        simp only [maxTo, List.getD_eq_getElem?_getD, List.getElem?_eq_getElem hk, Option.getD_some]
      rw [e]
      simp only [Option.toList, List.all_cons, List.all_nil, Bool.and_true]
      rw [← Bool.decide_and]
      congr 1
      rw [Int.max_le]
  obtain ⟨k, hk⟩ : ∃ k, so.length = k + 1 := ⟨so.length - 1, by omega⟩
  have := key k (by omega)
  rw [← hk] at this
  rwa [List.take_of_length_le (Nat.le_refl _)] at this
theorem max_bd {so : List Int} (h : so.all (inR · 0 1000) = true) (hn : 0 < so.length) : 0 ≤ maxTo so so.length ∧ maxTo so so.length ≤ 1000 := by
  have h1 := max_all (so := so) (P := 1000) hn
  have h2 : so.all (fun x => decide (x ≤ 1000)) = true := by
    rw [List.all_eq_true] at h ⊢
    intro x hx
    have := inR_iff.1 (h x hx)
    simpa using this.2
  rw [h2] at h1
  have h3 : ¬ maxTo so so.length ≤ -1 := by
    intro hc
    have h4 := max_all (so := so) (P := -1) hn
    rw [decide_eq_true hc, List.all_eq_true] at h4
    have h5 := h4 so[0] (List.getElem_mem _)
    rw [List.all_eq_true] at h
    have h6 := inR_iff.1 (h so[0] (List.getElem_mem _))
    simp at h5
    omega
  have := of_decide_eq_true h1.symm
  omega
end Go.Proofs.Ytpnbjfhcnjdohaa
