/- Finite numbers, and what hands back a number only if it is one. -/
import Derived.Test.YtpnbjfhcnjdohaaFloats
import Derived.Test.YtpnbjfhcnjdohaaSlice
namespace Go.Proofs.Ytpnbjfhcnjdohaa
open Go.RowKit Plain
set_option linter.unusedVariables false
set_option linter.unusedSimpArgs false
attribute [local go_sem ↓] Go.wp_at_zero Go.wp_at_succ

/-- is it a zero? -/
def eq0F (m : Option Nat) : Bool := match m with | none => false | some b => FloatKind.f32.format.order b 0 == some .eq
theorem order_eq0 {r : Nat} {m : Option Nat} (h : nrm .f32 r = m) : (FloatKind.f32.format.order r 0 == some .eq) = eq0F m := by
  subst h
  cases e : nrm .f32 r with
  | none => rw [order_nan (.inl (nrm_none e))]; rfl
  | some b => rw [(nrm_some e).1]; rfl
/-- a number less itself is zero: it is finite -/
def finB (m : Option Nat) : Bool := eq0F (fop .sub .f32 m m)

set_option maxHeartbeats 400000 in
theorem l01Finite_any (a : Nat) (w : World) : Calls Try.prog 36 #[.float .f32 a] w (Draws (.bool (finB (nrm .f32 a))) w) := by
  go_enter Try.func36, Try.ntmps36
  go_wp2_with (first
    | (refine wpList_fop _ rfl .sub _ _ _ _ rfl .f32 _ _ rfl rfl (by simp) ?_; intro r1 n1 h1; have H1 := hd h1; clear h1))
  go_ret
  exact ⟨ret_bool (order_eq0 H1.out), _, rfl⟩

set_option maxHeartbeats 400000 in
theorem IsFinite_any (a : Nat) (w : World) : Calls Try.prog 17 #[.float .f32 a] w (Draws (.bool (finB (nrm .f32 a))) w) := by
  go_enter Try.func17, Try.ntmps17
  go_wp2_with (first
    | (refine wpList_fop _ rfl .sub _ _ _ _ rfl .f32 _ _ rfl rfl (by simp) ?_; intro r1 n1 h1; have H1 := hd h1; clear h1))
  go_ret
  exact ⟨ret_bool (order_eq0 H1.out), _, rfl⟩

end Go.Proofs.Ytpnbjfhcnjdohaa
