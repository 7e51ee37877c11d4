/- Finite numbers, and what hands back a number only if it is one. -/
import Derived.Test.YtcdegjhcmhmjfaaFloats
import Derived.Test.YtcdegjhcmhmjfaaSlice
namespace Go.Proofs.Ytcdegjhcmhmjfaa
open Go.RowKit Plain
set_option linter.unusedVariables false
set_option linter.unusedSimpArgs false
attribute [local go_sem ↓] Go.wp_at_zero Go.wp_at_succ

/-- is it a zero? -/
def eq0F (m : Option Nat) : Bool := match m with | none => false | some b => FloatKind.f32.format.order b 0 == some .eq
theorem order_eq0 {r : Nat} {m : Option Nat} (h : nrm .f32 r = m) : (FloatKind.f32.format.order r 0 == some .eq) = eq0F m := by
  subst h
  cases e : nrm .f32 r with
  | none => rw [order_nan (.inl (nrm_none e))]; rfl
  | some b => rw [(nrm_some e).1]; rfl
/-- a number less itself is zero: it is finite -/
def finB (m : Option Nat) : Bool := eq0F (fop .sub .f32 m m)

end Go.Proofs.Ytcdegjhcmhmjfaa
