/- Chapter 5: periods and tables. -/
import Derived.Test.YtpnbjfhcnjdohaaNum
import Derived.Test.YtpnbjfhcnjdohaaSlice
import Derived.Test.YtpnbjfhcnjdohaaWords
namespace Go.Proofs.Ytpnbjfhcnjdohaa
open Go.RowKit Plain
set_option linter.unusedVariables false
set_option linter.unusedSimpArgs false
attribute [local go_sem ↓] Go.wp_at_zero Go.wp_at_succ

/-- times of a table -/
def tableB (xs : List Int) (p : Int) : Bool := inR p 1 60 && manyIn xs 1 12 0 (p - 1)
theorem table_at {xs : List Int} {p : Int} (h : tableB xs p = true) (i : Nat) (hi : i < xs.length) : 0 ≤ xs.getD i 0 ∧ xs.getD i 0 ≤ 60 := by
  simp only [tableB, manyIn, Bool.and_eq_true, inR_iff, List.all_eq_true] at h
  have := h.2.2.2 xs[i] (List.getElem_mem _)
  rw [List.getD_eq_getElem?_getD, List.getElem?_eq_getElem hi]
  simp
  omega
theorem tmod_floor (a b : Int) (hb : 0 < b) : (a.tmod b + b) % b = a % b := by
  rw [Int.add_emod_right, Int.tmod_eq_emod]
  split
  · simp
  · have : (b.natAbs : Int) = b := by omega
    rw [this, show a % b - b = a % b + b * (-1) by omega, Int.add_mul_emod_self_left, Int.emod_emod]

set_option maxHeartbeats 400000 in
theorem floorMod_any (a b : Int) (w : World) (hb0 : 0 < b) (hb1 : b ≤ 1099511627776) (ha : I64 a) :
    Calls Try.prog 39 #[.int .i64 a, .int .i64 b] w fun r w' => r = .returned (.int .i64 (a % b)) ∧ w = w' := by
  obtain ⟨ha1, ha2⟩ := ha
  have h0 : ¬ b = 0 := by omega
  have h1 := Int.tmod_lt_of_pos a hb0
  have h2 : -b < a.tmod b := by have := Int.lt_tmod_of_pos a hb0; omega
  have Hm := hd (tmod_floor a b hb0)
  go_enter Try.func39, Try.ntmps39
  go_wp2
  go_ret
  exact ⟨ret_i64 Hm.out, rfl⟩

set_option maxHeartbeats 400000 in
theorem l05Nodes_any (n : Int) (w : World) :
    Calls Try.prog 21 #[.int .i64 n] w fun r w' => r = .returned (.bool (inR n 1 12)) ∧ w = w' := by
  go_enter Try.func21, Try.ntmps21
  go_wp2_with (go_at_call 24; refine (l00In_any _ _ _ _).mono ?_; rintro e w' ⟨rfl, rfl⟩)
  go_ret
  exact ⟨rfl, rfl⟩

end Go.Proofs.Ytpnbjfhcnjdohaa
