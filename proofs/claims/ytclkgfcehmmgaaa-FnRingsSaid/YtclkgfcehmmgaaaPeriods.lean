/- Chapter 5: periods and tables. -/
import Derived.Test.YtclkgfcehmmgaaaNum
import Derived.Test.YtclkgfcehmmgaaaSlice
import Derived.Test.YtclkgfcehmmgaaaWords
namespace Go.Proofs.Ytclkgfcehmmgaaa
open Go.RowKit Plain
set_option linter.unusedVariables false
set_option linter.unusedSimpArgs false
attribute [local go_sem ↓] Go.wp_at_zero Go.wp_at_succ

/-- times of a table -/
def tableB (xs : List Int) (p : Int) : Bool := inR p 1 60 && manyIn xs 1 12 0 (p - 1)
theorem table_at {xs : List Int} {p : Int} (h : tableB xs p = true) (i : Nat) (hi : i < xs.length) : 0 ≤ xs.getD i 0 ∧ xs.getD i 0 ≤ 60 := by
  simp only [tableB, manyIn, Bool.and_eq_true, inR_iff, List.all_eq_true] at h
  have := h.2.2.2 xs[i] (List.getElem_mem _)
  rw [List.getD_eq_getElem?_getD, List.getElem?_eq_getElem hi]
  simp
  omega
theorem tmod_floor (a b : Int) (hb : 0 < b) : (a.tmod b + b) % b = a % b := by
  rw [Int.add_emod_right, Int.tmod_eq_emod]
  split
  · simp
  · have : (b.natAbs : Int) = b := by omega
    rw [this, show a % b - b = a % b + b * (-1) by omega, Int.add_mul_emod_self_left, Int.emod_emod]

set_option maxHeartbeats 400000 in
theorem areEvents_any (n : Int) (w : World) :
    Calls Try.prog 37 #[.int .i64 n] w fun r w' => r = .returned (.bool (inR n 1 12)) ∧ w = w' := by
  go_enter Try.func37, Try.ntmps37
  go_wp2_with (go_at_call 36; refine (within_any _ _ _ _).mono ?_; rintro e w' ⟨rfl, rfl⟩)
  go_ret
  exact ⟨rfl, rfl⟩

set_option maxHeartbeats 400000 in
theorem l05Nodes_any (n : Int) (w : World) :
    Calls Try.prog 46 #[.int .i64 n] w fun r w' => r = .returned (.bool (inR n 1 12)) ∧ w = w' := by
  go_enter Try.func46, Try.ntmps46
  go_wp2_with (go_at_call 39; refine (l00In_any _ _ _ _).mono ?_; rintro e w' ⟨rfl, rfl⟩)
  go_ret
  exact ⟨rfl, rfl⟩

end Go.Proofs.Ytclkgfcehmmgaaa
