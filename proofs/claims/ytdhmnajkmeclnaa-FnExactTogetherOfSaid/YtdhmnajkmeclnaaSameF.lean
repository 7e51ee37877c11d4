/- The laws' comparison of two floats. -/
import Derived.Test.YtdhmnajkmeclnaaFloats
import Derived.Test.YtdhmnajkmeclnaaSlice
namespace Go.Proofs.Ytdhmnajkmeclnaa
open Go.RowKit Plain
set_option linter.unusedVariables false
set_option linter.unusedSimpArgs false
attribute [local go_sem ↓] Go.wp_at_zero Go.wp_at_succ

set_option maxHeartbeats 1000000 in
theorem sameFloat_any (x y : Nat) (m : Option Nat) (w : World) (hx : nrm .f64 x = m) (hy : nrm .f64 y = m) :
    Calls Try.prog 15 #[.float .f64 x, .float .f64 y] w (Draws (.bool true) w) := by
  cases m with
  | none =>
    have ox : FloatKind.f64.format.order x x = none := order_nan (.inl (nrm_none hx))
    have oy : FloatKind.f64.format.order y y = none := order_nan (.inl (nrm_none hy))
    clear hx hy
    go_enter Try.func15, Try.ntmps15
    go_wp2
    go_ret
    exact ⟨rfl, 0, rfl⟩
  | some b =>
    obtain ⟨rfl, hb⟩ := nrm_some hx
    obtain ⟨rfl, _⟩ := nrm_some hy
    have ox : FloatKind.f64.format.order y y = some .eq := order_refl hb
    clear hx hy hb
    by_cases hz : (FloatKind.f64.format.order y 0 == some .eq) = true
    · go_enter Try.func15, Try.ntmps15
      go_wp2_with (first
        | (refine wpList_fop _ rfl .quo _ _ _ _ rfl .f64 _ _ rfl rfl (by simp) ?_; intro r1 n1 h1; have H1 := hd h1; clear h1))
      go_ret
      refine ⟨ret_bool ?_, ?_⟩
      · rename_i r0 n0 H0
        have e := order_congr (H0.out.trans H1.out.symm) 0
        simp [e]
      · first | exact ⟨_, rfl⟩ | exact drew2 _ _ _
    · rw [Bool.not_eq_true] at hz
      go_enter Try.func15, Try.ntmps15
      go_wp2
      go_ret
      exact ⟨rfl, 0, rfl⟩
end Go.Proofs.Ytdhmnajkmeclnaa
