/- Chapter 6: loads and chances. -/
import Derived.Test.YtcdegjhcmhmjfaaNum
import Derived.Test.YtcdegjhcmhmjfaaSlice
import Derived.Test.YtcdegjhcmhmjfaaFloats
namespace Go.Proofs.Ytcdegjhcmhmjfaa
open Go.RowKit Plain
set_option linter.unusedVariables false
set_option linter.unusedSimpArgs false
attribute [local go_sem ↓] Go.wp_at_zero Go.wp_at_succ

/-- the chance that none of the first k servers is free -/
def blockF (a : Option Nat) : Nat → Option Nat
  | 0 => some 1065353216
  | k + 1 => fop .quo .f32 (fop .mul .f32 a (blockF a k)) (fop .add .f32 (some (floatOfInt .f32 ((k : Int) + 1))) (fop .mul .f32 a (blockF a k)))
theorem nrm_one : nrm .f32 1065353216 = some 1065353216 := by decide
/-- a number of the call, equal up to which NaN -/
def FloatOut (m : Option Nat) (w : World) (r : Ending) (w' : World) : Prop := ∃ b, r = .returned (.float .f32 b) ∧ nrm .f32 b = m ∧ ∃ n, w' = w.drewN n

set_option maxHeartbeats 1000000 in
theorem blockChance_any (a : Nat) (m : Nat) (w : World) (hm : m ≤ 1048576) :
    Calls Try.prog 13 #[.float .f32 a, .int .i64 m] w (FloatOut (blockF (nrm .f32 a) m) w) := by
  go_enter Try.func13, Try.ntmps13
  go_wp2
  go_loopw [5, 9] (fun b i wr => ∃ (k : Nat) (x : Nat), k ≤ m ∧ i = .int .i64 k ∧ b = .float .f32 x ∧ Hid (nrm .f32 x = blockF (nrm .f32 a) k) ∧ ∃ n, wr = w.drewN n) (fun _ i _ => m - (intOf i).toNat)
  case atStart => exact ⟨0, 1065353216, by omega, rfl, rfl, nrm_one, 0, rfl⟩
  case round =>
    obtain ⟨k, x, hk, rfl, rfl, hx, n, rfl⟩ := hrel
    by_cases hlt : k < m
    · go_wp2_with (first
        | (refine wpList_fop _ rfl .mul _ _ _ _ rfl .f32 _ _ rfl rfl (by simp) ?_; intro r1 n1 h1; have H1 := hd h1; clear h1)
        | (refine wpList_fop _ rfl .add _ _ _ _ rfl .f32 _ _ rfl rfl (by simp) ?_; intro r2 n2 h2; have H2 := hd h2; clear h2)
        | (refine wpList_fop _ rfl .quo _ _ _ _ rfl .f32 _ _ rfl rfl (by simp) ?_; intro r3 n3 h3; have H3 := hd h3; clear h3))
      go_roundw
      case rel => exact ⟨k + 1, r3, by omega, by go_num, rfl, hd (by rw [H3.out, H2.out, H1.out, hx.out, nrm_ofInt]; rfl), _, rfl⟩
      case measure => simp [intOf]; omega
    · have e : k = m := by omega
      subst e
      go_wp2
      go_ret
      exact ⟨_, rfl, hx.out, _, rfl⟩
/-- a load -/
def loadB (a : Nat) : Bool := (FloatKind.f32.format.order a 0 == some .gt) && (FloatKind.f32.format.order a 1115684864 == some .lt || FloatKind.f32.format.order a 1115684864 == some .eq)
set_option maxHeartbeats 400000 in
theorem isLoad_any (a : Nat) (w : World) :
    Calls Try.prog 11 #[.float .f32 a] w fun r w' => r = .returned (.bool (loadB a)) ∧ w = w' := by
  go_enter Try.func11, Try.ntmps11
  go_wp2
  all_goals (go_ret; refine ⟨ret_bool ?_, rfl⟩; simp [loadB, *])

set_option maxHeartbeats 400000 in
theorem areServers_any (n : Int) (w : World) :
    Calls Try.prog 12 #[.int .i64 n] w fun r w' => r = .returned (.bool (inR n 1 96)) ∧ w = w' := by
  go_enter Try.func12, Try.ntmps12
  go_wp2_with (go_at_call 15; refine (within_any _ _ _ _).mono ?_; rintro e w' ⟨rfl, rfl⟩)
  go_ret
  exact ⟨rfl, rfl⟩

/-- the chance to wait -/
def waitF (a : Option Nat) (m : Nat) : Option Nat :=
  fop .quo .f32 (blockF a m) (fop .sub .f32 (some 1065353216) (fop .mul .f32 (fop .quo .f32 a (some (floatOfInt .f32 (m : Int)))) (fop .sub .f32 (some 1065353216) (blockF a m))))
set_option maxHeartbeats 1000000 in
theorem waitChance_any (a : Nat) (m : Nat) (w : World) (hm : m ≤ 1048576) :
    Calls Try.prog 14 #[.float .f32 a, .int .i64 m] w (FloatOut (waitF (nrm .f32 a) m) w) := by
  go_enter Try.func14, Try.ntmps14
  go_wp2_with (first
    | (go_at_call 13; refine (blockChance_any _ _ _ hm).mono ?_; rintro e w' ⟨b, rfl, hb, k, rfl⟩; have Hb := hd hb; clear hb)
    | (refine wpList_fop _ rfl .quo (.tmp 10) (.tmp 12) _ _ rfl .f32 _ _ rfl rfl (by simp) ?_; intro r1 n1 h1; have H1 := hd h1; clear h1)
    | (refine wpList_fop _ rfl .sub _ (.tmp 14) _ _ rfl .f32 _ _ rfl rfl (by simp) ?_; intro r2 n2 h2; have H2 := hd h2; clear h2)
    | (refine wpList_fop _ rfl .mul (.tmp 13) (.tmp 15) _ _ rfl .f32 _ _ rfl rfl (by simp) ?_; intro r3 n3 h3; have H3 := hd h3; clear h3)
    | (refine wpList_fop _ rfl .sub _ (.tmp 16) _ _ rfl .f32 _ _ rfl rfl (by simp) ?_; intro r4 n4 h4; have H4 := hd h4; clear h4)
    | (refine wpList_fop _ rfl .quo (.tmp 9) (.tmp 17) _ _ rfl .f32 _ _ rfl rfl (by simp) ?_; intro r5 n5 h5; have H5 := hd h5; clear h5))
  go_ret
  refine ⟨_, rfl, ?_, by first | exact ⟨_, rfl⟩ | exact drew2 _ _ _⟩
  rw [show nrm .f32 r5 = _ from H5.out, H4.out, H3.out, H2.out, H1.out, Hb.out, nrm_ofInt, nrm_one]
  rfl

end Go.Proofs.Ytcdegjhcmhmjfaa
