/- Means of small sums, as the machine's numbers tell them: tables. No program stands here. -/
import Derived.Laws.FloatArith
import Derived.Test.YtjddlgmdbkaieaaFMono
namespace Go.Proofs.Ytjddlgmdbkaieaa
set_option linter.unusedVariables false
def mW (s n : Nat) : Nat := (floatBits .quo .f32 (floatOfInt .f32 (s : Int)) (floatOfInt .f32 (n : Int))).getD 0
def dW (s n : Nat) : Nat := (floatToFloatBits .f32 (mW s n) .f64).getD 0
def aW (s n : Nat) : Nat := (floatBits .add .f64 (dW s n) 4562254508917369340).getD 0
set_option maxRecDepth 100000 in
theorem m_tab : ∀ n : Nat, n < 9 → ∀ s : Nat, s < 325 → 1 < n → floatBits .quo .f32 (floatOfInt .f32 (s : Int)) (floatOfInt .f32 (n : Int)) = some (mW s n) := by decide +kernel
set_option maxRecDepth 100000 in
theorem d_tab : ∀ n : Nat, n < 9 → ∀ s : Nat, s < 325 → 1 < n → floatToFloatBits .f32 (mW s n) .f64 = some (dW s n) ∧ floatBits .add .f64 (dW s n) 4562254508917369340 = some (aW s n) ∧ dW s n ≤ aW s n ∧ aW s n < 9218868437227405312 ∧ dW s n ≤ dW (s + 1) n := by decide +kernel
theorem d_up {n : Nat} (h1 : n < 9) (h2 : 1 < n) (s : Nat) (d : Nat) (hs : s + d < 325) : dW s n ≤ dW (s + d) n := by
  induction d with
  | zero => exact Nat.le_refl _
  | succ d ih => exact Nat.le_trans (ih (by omega)) (d_tab n h1 (s + d) (by omega) h2).2.2.2.2
theorem d_gt {n : Nat} (h1 : n < 9) (h2 : 1 < n) {s t : Nat} (hst : s ≤ t) (ht : t < 325) : (FloatKind.f64.format.order (dW s n) (aW t n) == some .gt) = false := by
  obtain ⟨_, _, a1, a2, _⟩ := d_tab n h1 t ht h2
  have b := d_up h1 h2 s (t - s) (by omega)
  rw [show s + (t - s) = t by omega] at b
  have hi : Ieee.double.infRung = 9218868437227405312 := by decide
  rw [show FloatKind.f64.format = Ieee.double from rfl, order_rung (f := Ieee.double) (by rw [hi]; omega) (by rw [hi]; omega)]
  have : compare (dW s n) (aW t n) ≠ .gt := by
    rw [Nat.compare_ne_gt]; omega
  cases e : compare (dW s n) (aW t n) with
  | lt => rfl
  | eq => rfl
  | gt => exact absurd e this
end Go.Proofs.Ytjddlgmdbkaieaa
