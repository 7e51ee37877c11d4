/- CoverOf: rows of numbers that are told by a function, letters. -/
import Derived.Test.YtfofokofphcdnaaDoorProg
import Derived.Test.YtfofokofphcdnaaDoorCovT
import Derived.Test.YtfofokofphcdnaaDoorBase
namespace Go.Proofs.YtfofokofphcdnaaDoor
open Go.RowKit Plain
set_option linter.unusedVariables false
theorem cov_cell {w : World} {B n cap g : Nat} {f : Nat → Int} (h : w.ownsRow B 2 1 (.slice (some ⟨g, 0, none⟩) n cap) n ((lst f n).map vi)) {k : Nat} (hk : k < n) : w.cell? ⟨g, k, none⟩ = some (.int .i64 (f k)) := by
  rw [h.cellAt k (by omega), List.getElem?_map, lst_get hk]; rfl
theorem cov_row {f : Nat → Int} {n k : Nat} {v : Int} (g : Nat → Int) (hg : ∀ j, j < n → g j = if j = k then v else f j) : ((lst f n).map vi).set k (.int .i64 v) = (lst g n).map vi := by
  rw [← lst_set g hg, List.map_set]; rfl
theorem cov_let {t : ByteArray} {S k : Nat} (ht : t.size = S) (hk : k < S) : ∃ q : Nat, q < 256 ∧ (∀ h : k < t.size, (t[k]'h).toNat = q) ∧ cod t k = (q : Int) := by
  have h : k < t.size := by omega
  exact ⟨(t[k]'h).toNat, UInt8.toNat_lt _, fun _ => rfl, cod_at h⟩
theorem many_at {cs : List Int} {n : Nat} (h : manyIn cs n n 0 1000 = true) : cs.length = n ∧ ∀ j, j < n → 0 ≤ cs.getD j 0 ∧ cs.getD j 0 ≤ 1000 := by
  simp only [manyIn, Bool.and_eq_true, decide_eq_true_eq] at h
  have hl : cs.length = n := by omega
  refine ⟨hl, fun j hj => ?_⟩
  have := inR_iff.1 (List.all_eq_true.1 h.2.2 (cs[j]'(by omega)) (List.getElem_mem _))
  rw [List.getD_eq_getElem?_getD, List.getElem?_eq_getElem (by omega : j < cs.length)]
  exact this
theorem many_mk {cs : List Int} {n : Nat} (hl : cs.length = n) (h : ∀ j, j < n → inR (cs.getD j 0) 0 1000 = true) : manyIn cs n n 0 1000 = true := by
  have : cs.all (inR · 0 1000) = true := by
    rw [List.all_eq_true]
    intro x hx
    obtain ⟨j, hj, rfl⟩ := List.getElem_of_mem hx
    have := h j (by omega)
    rw [List.getD_eq_getElem?_getD, List.getElem?_eq_getElem hj] at this
    exact this
  rw [manyIn, this, decide_eq_true (by omega), decide_eq_true (by omega)]; rfl
theorem many_bad {cs : List Int} {n k : Nat} (hk : k < n) (h : inR (cs.getD k 0) 0 1000 = false) : manyIn cs n n 0 1000 = false := by
  cases hm : manyIn cs n n 0 1000 with
  | false => rfl
  | true =>
    have := (many_at hm).2 k hk
    rw [inR_iff.2 this] at h
    cases h
theorem many_len {cs : List Int} {n : Nat} (h : ¬ cs.length = n) : manyIn cs n n 0 1000 = false := by
  cases hm : manyIn cs n n 0 1000 with
  | false => rfl
  | true => exact absurd (many_at hm).1 h
end Go.Proofs.YtfofokofphcdnaaDoor
