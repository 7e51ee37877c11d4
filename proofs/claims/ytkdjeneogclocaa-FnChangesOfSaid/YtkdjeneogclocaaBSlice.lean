/- The laws' helpers on slices of bool: a copy, equality, marks. -/
import Derived.Test.YtkdjeneogclocaaSlice
import Derived.Test.YtkdjeneogclocaaFloats
namespace Go.Proofs.Ytkdjeneogclocaa
open Go.RowKit Plain
set_option linter.unusedVariables false
set_option linter.unusedSimpArgs false
attribute [local go_sem ↓] Go.wp_at_zero Go.wp_at_succ

def vb (x : Bool) : Value := .bool x
theorem Rd.bool {w : World} {A : Option Addr} {n : Nat} {xs : List Bool} (h : Rd w 1 A n (xs.map vb)) {k : Nat} (hk : k < n) : ∃ b off, A = some ⟨b, off, none⟩ ∧ w.cell? ⟨b, off + k, none⟩ = some (.bool (xs.getD k false)) := by
  obtain ⟨h1, _, h2⟩ := h
  obtain ⟨b, off, hA, hc⟩ := h2 (by omega)
  refine ⟨b, off, hA, hc k _ ?_⟩
  have hl : k < xs.length := by simp at h1; omega
  simp [hl, vb, List.getD_eq_getElem?_getD]

theorem take_succ_eqB {xs ys : List Bool} {k : Nat} (h : xs.take k = ys.take k) (hk : k < xs.length) (hk' : k < ys.length) (he : xs[k]?.getD false = ys[k]?.getD false) : xs.take (k + 1) = ys.take (k + 1) := by
  rw [List.take_add_one, List.take_add_one, h]
  simp only [hk, hk', List.getElem?_eq_getElem, Option.getD_some] at he ⊢
  rw [he]
theorem ne_of_getDB {xs ys : List Bool} {k : Nat} (he : ¬ xs[k]?.getD false = ys[k]?.getD false) : ¬ xs = ys := by
  rintro rfl
  exact he rfl
theorem infoBool : (Try.prog.info? 4).map (fun i => (i.zero, i.size, i.bytes)) = some (some (.bool false), 1, 1) := by kernel_rfl
end Go.Proofs.Ytkdjeneogclocaa
