/- WaitChance and MeanWait of both sides: the same number. -/
import Derived.Test.YtomiakmlapaclaaWaitBound
import Derived.Test.YtomiakmlapaclaaWaiting
import Derived.Test.YtomiakmlapaclaaFin
namespace Go.Proofs.Ytomiakmlapaclaa
open Go.RowKit Plain
set_option linter.unusedVariables false
set_option linter.unusedSimpArgs false
attribute [local go_sem ↓] Go.wp_at_zero Go.wp_at_succ

/-- a number and a bool -/
def FloatOut2 (m : Option Nat × Bool) (w : World) (r : Ending) (w' : World) : Prop := ∃ b, r = .returned (.tuple #[.float .f32 b, .bool m.2]) ∧ nrm .f32 b = m.1 ∧ Below w.heap.size w w'
theorem nrm_zero : nrm .f32 0 = some 0 := by decide
/-- is the load below the servers? -/
def lessB (a : Nat) (n : Int) : Bool := decide (a < floatOfInt .f32 n)
def waitM (a : Nat) (n : Int) : Option Nat × Bool := if loadB a && (inR n 1 96 && lessB a n) then (waitF (nrm .f32 a) n.toNat, true) else (some 0, false)
def meanM (a : Nat) (n : Int) : Option Nat × Bool := if loadB a && (inR n 1 96 && lessB a n) then (meanF (nrm .f32 a) n.toNat, true) else (some 0, false)

theorem servers_at {m : Nat} (h1 : 1 ≤ m) (h2 : m ≤ 96) : floatOfInt .f32 (m : Int) < 2139095040 := by
  obtain ⟨k, rfl⟩ : ∃ k, m = k + 1 := ⟨m - 1, by omega⟩
  have := servers_lo k (by omega)
  rw [show ((k + 1 : Nat) : Int) = (k : Int) + 1 by omega]
  omega
theorem less_t {a m : Nat} (ha : a ≤ 1115684864) (h1 : 1 ≤ m) (h2 : m ≤ 96) (h : lessB a m = true) : FloatKind.f32.format.order a (floatOfInt .f32 (m : Int)) = some .lt := by
  have := servers_at h1 h2
  have hi := inf_single
  have hlt := of_decide_eq_true h
  rw [show FloatKind.f32.format = Ieee.single from rfl, order_rung Ieee.single (by omega) (by omega)]
  simp only [compare, compareOfLessAndEq]
  rw [if_pos hlt]
theorem less_f {a m : Nat} (ha : a ≤ 1115684864) (h1 : 1 ≤ m) (h2 : m ≤ 96) (h : lessB a m = false) : FloatKind.f32.format.order a (floatOfInt .f32 (m : Int)) = some .gt ∨ FloatKind.f32.format.order a (floatOfInt .f32 (m : Int)) = some .eq := by
  have := servers_at h1 h2
  have hi := inf_single
  have hlt := of_decide_eq_false h
  rw [show FloatKind.f32.format = Ieee.single from rfl, order_rung Ieee.single (by omega) (by omega)]
  simp only [compare, compareOfLessAndEq]
  rw [if_neg hlt]
  split
  · exact .inr rfl
  · exact .inl rfl
theorem load_nrm {a : Nat} (ha : a ≤ 1115684864) : nrm .f32 a = some a := by
  have hi := inf_single
  obtain ⟨K, L, e, _⟩ := read_rung Ieee.single (r := a) (by omega)
  rw [nrm, show FloatKind.f32.format = Ieee.single from rfl, e]
  rfl
theorem finB_rung {z : Nat} (h : z < 2139095040) : finB (some z) = true := by
  rw [finB, self_zero h]; decide

end Go.Proofs.Ytomiakmlapaclaa
