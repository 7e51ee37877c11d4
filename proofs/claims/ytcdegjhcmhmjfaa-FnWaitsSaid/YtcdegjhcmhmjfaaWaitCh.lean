/- WaitChance and MeanWait of both sides: the same number. -/
import Derived.Test.YtcdegjhcmhmjfaaWaitBound
import Derived.Test.YtcdegjhcmhmjfaaWaiting
import Derived.Test.YtcdegjhcmhmjfaaFin
namespace Go.Proofs.Ytcdegjhcmhmjfaa
open Go.RowKit Plain
set_option linter.unusedVariables false
set_option linter.unusedSimpArgs false
attribute [local go_sem ↓] Go.wp_at_zero Go.wp_at_succ

/-- a number and a bool -/
def FloatOut2 (m : Option Nat × Bool) (w : World) (r : Ending) (w' : World) : Prop := ∃ b, r = .returned (.tuple #[.float .f32 b, .bool m.2]) ∧ nrm .f32 b = m.1 ∧ Below w.heap.size w w'
theorem nrm_zero : nrm .f32 0 = some 0 := by decide
/-- is the load below the servers? -/
def lessB (a : Nat) (n : Int) : Bool := decide (a < floatOfInt .f32 n)
def waitM (a : Nat) (n : Int) : Option Nat × Bool := if loadB a && (inR n 1 96 && lessB a n) then (waitF (nrm .f32 a) n.toNat, true) else (some 0, false)
def meanM (a : Nat) (n : Int) : Option Nat × Bool := if loadB a && (inR n 1 96 && lessB a n) then (meanF (nrm .f32 a) n.toNat, true) else (some 0, false)

theorem servers_at {m : Nat} (h1 : 1 ≤ m) (h2 : m ≤ 96) : floatOfInt .f32 (m : Int) < 2139095040 := by
  obtain ⟨k, rfl⟩ : ∃ k, m = k + 1 := ⟨m - 1, by omega⟩
  have := servers_lo k (by omega)
  rw [show ((k + 1 : Nat) : Int) = (k : Int) + 1 by omega]
  omega
theorem less_t {a m : Nat} (ha : a ≤ 1115684864) (h1 : 1 ≤ m) (h2 : m ≤ 96) (h : lessB a m = true) : FloatKind.f32.format.order a (floatOfInt .f32 (m : Int)) = some .lt := by
  have := servers_at h1 h2
  have hi := inf_single
  have hlt := of_decide_eq_true h
  rw [show FloatKind.f32.format = Ieee.single from rfl, order_rung Ieee.single (by omega) (by omega)]
  simp only [compare, compareOfLessAndEq]
  rw [if_pos hlt]
theorem less_f {a m : Nat} (ha : a ≤ 1115684864) (h1 : 1 ≤ m) (h2 : m ≤ 96) (h : lessB a m = false) : FloatKind.f32.format.order a (floatOfInt .f32 (m : Int)) = some .gt ∨ FloatKind.f32.format.order a (floatOfInt .f32 (m : Int)) = some .eq := by
  have := servers_at h1 h2
  have hi := inf_single
  have hlt := of_decide_eq_false h
  rw [show FloatKind.f32.format = Ieee.single from rfl, order_rung Ieee.single (by omega) (by omega)]
  simp only [compare, compareOfLessAndEq]
  rw [if_neg hlt]
  split
  · exact .inr rfl
  · exact .inl rfl
theorem load_nrm {a : Nat} (ha : a ≤ 1115684864) : nrm .f32 a = some a := by
  have hi := inf_single
  obtain ⟨K, L, e, _⟩ := read_rung Ieee.single (r := a) (by omega)
  rw [nrm, show FloatKind.f32.format = Ieee.single from rfl, e]
  rfl
theorem finB_rung {z : Nat} (h : z < 2139095040) : finB (some z) = true := by
  rw [finB, self_zero h]; decide

set_option maxHeartbeats 2000000 in
theorem implWait_any (w : World) (a : Nat) (wa : a < 4294967296) (n : Int) : Calls Try.prog 8 #[.float .f32 a, .int .i64 n] w (FloatOut2 (waitM a n) w) := by
  cases h1 : loadB a with
  | false =>
    have H := hd (show waitM a n = (some 0, false) by rw [waitM, h1]; rfl)
    clear wa
    go_enter Try.func8, Try.ntmps8
    go_wp2_with (go_at_call 11; refine (isLoad_any _ _).mono ?_; rintro e w' ⟨rfl, rfl⟩)
    go_ret2
    rw [H.out]
    exact ⟨_, rfl, nrm_zero, Below.refl _ _⟩
  | true =>
    cases h2 : inR n 1 96 with
    | false =>
      have H := hd (show waitM a n = (some 0, false) by rw [waitM, h1, h2]; rfl)
      clear wa
      go_enter Try.func8, Try.ntmps8
      go_wp2_with (first | (go_at_call 11; refine (isLoad_any _ _).mono ?_; rintro e w' ⟨rfl, rfl⟩) | (go_at_call 12; refine (areServers_any _ _).mono ?_; rintro e w' ⟨rfl, rfl⟩))
      go_ret2
      rw [H.out]
      exact ⟨_, rfl, nrm_zero, Below.refl _ _⟩
    | true =>
      obtain ⟨n1, n2⟩ := inR_iff.1 h2
      obtain ⟨m, rfl⟩ := Int.eq_ofNat_of_zero_le (show 0 ≤ n by omega)
      have ha := load_rung wa h1
      clear wa
      cases h3 : lessB a m with
      | false =>
        have H := hd (show waitM a m = (some 0, false) by rw [waitM, h1, h2, h3]; rfl)
        have ho := less_f ha (by omega) (by omega) h3
        clear h3 ha
        rcases ho with ho | ho
        all_goals
          go_enter Try.func8, Try.ntmps8
          go_wp2_with (first | (go_at_call 11; refine (isLoad_any _ _).mono ?_; rintro e w' ⟨rfl, rfl⟩) | (go_at_call 12; refine (areServers_any _ _).mono ?_; rintro e w' ⟨rfl, rfl⟩))
          go_ret2
          rw [H.out]
          exact ⟨_, rfl, nrm_zero, Below.refl _ _⟩
      | true =>
        have H := hd (show waitM a m = (waitF (nrm .f32 a) m, true) by rw [waitM, h1, h2, h3]; rfl)
        have ho := less_t ha (by omega) (by omega) h3
        clear h3 ha
        go_enter Try.func8, Try.ntmps8
        go_wp2_with (first | (go_at_call 11; refine (isLoad_any _ _).mono ?_; rintro e w' ⟨rfl, rfl⟩) | (go_at_call 12; refine (areServers_any _ _).mono ?_; rintro e w' ⟨rfl, rfl⟩) | (go_at_call 14; refine (waitChance_any _ _ _ (by omega)).mono ?_; rintro e w' ⟨b, rfl, hb, k, rfl⟩; have Hb := hd hb; clear hb))
        go_ret2
        rw [H.out]
        exact ⟨_, rfl, Hb.out, below_drewN (Below.refl _ _) _⟩

end Go.Proofs.Ytcdegjhcmhmjfaa
