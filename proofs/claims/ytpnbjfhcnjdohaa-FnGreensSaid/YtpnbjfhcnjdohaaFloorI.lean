/- math.Floor, and the program's floorOf, on floats that are not negative. -/
import Derived.Test.YtpnbjfhcnjdohaaProg
import Derived.Test.YtpnbjfhcnjdohaaFloatConv
import Derived.Test.YtpnbjfhcnjdohaaFloorT
import Derived.Laws.Externs
import Derived.Sort.AtCall
namespace Go.Proofs.Ytpnbjfhcnjdohaa
open Go.RowKit
set_option linter.unusedVariables false
set_option linter.unusedSimpArgs false
attribute [local go_sem ↓] Go.wp_at_zero Go.wp_at_succ

theorem conv_up {P : Program} (src dst : TypeId) {b : Nat} (hs : P.underlying src = some (.float .f32)) (hd : P.underlying dst = some (.float .f64)) {s : Bool} {m : Nat} {e : Int} (h : Ieee.single.read b = .number s m e) (w : World) :
    (convert src dst (.float .f32 b)).run P w = .ok (.float .f64 (Ieee.double.nearest s m e)) w := by
  obtain ⟨h1, h2, h3⟩ := single_num h
  have hi : (Ieee.double.read (Ieee.double.write (.number s m e))).isInfinity = false := double_fits s m e h1 h2 h3
  simp [convert, run_underlying hs, run_underlying hd, Conv.floatToFloat, FloatKind.decode, FloatKind.encode, FloatKind.format, h, hi]
  rfl
theorem conv_down {P : Program} (src dst : TypeId) {b : Nat} (hs : P.underlying src = some (.float .f64)) (hd : P.underlying dst = some (.float .f32)) {s : Bool} {m : Nat} {e : Int} (h : Ieee.double.read b = .number s m e)
    (hi : (Ieee.single.read (Ieee.single.nearest s m e)).isInfinity = false) (w : World) :
    (convert src dst (.float .f64 b)).run P w = .ok (.float .f32 (Ieee.single.nearest s m e)) w := by
  have hi : (Ieee.single.read (Ieee.single.write (.number s m e))).isInfinity = false := hi
  simp [convert, run_underlying hs, run_underlying hd, Conv.floatToFloat, FloatKind.decode, FloatKind.encode, FloatKind.format, h, hi]
  rfl
/-- a whole number below 2^24 is a float32 -/
theorem int_fits (s : Bool) {N : Nat} (h : N < 2 ^ 24) : (Ieee.single.read (Ieee.single.nearest s N 0)).isInfinity = false := by
  have d4 : 0 < Ieee.single.infRung := Nat.mul_pos (by decide) (Nat.two_pow_pos 23)
  have s1 : Ieee.single.leastPlace = -149 := by decide
  have s2 : Ieee.single.fractionBits = 23 := rfl
  have s3 : Ieee.single.exponentBits = 8 := rfl
  by_cases h0 : N = 0
  · subst h0
    rw [fl_zero _ d4]
    rfl
  · have hl := (Nat.log2_lt h0).2 h
    obtain ⟨j, hj⟩ := fl_write Ieee.single (s := s) (e := 0) h0 (by rw [s2]; exact h) (by omega) (by rw [s1, s2, s3]; omega)
    rw [hj]
    rfl
theorem floor_entry (nm : String) {c : Nat} {s : Bool} {m : Nat} {e : Int} (h : Ieee.double.read c = .number s m e) : Extern.MathFloor.toIntegral nm .down #[.float .f64 c] = pure (.float .f64 (Ieee.double.write ((Ieee.double.read c).integral .down))) := by
  have hd : FloatKind.f64.decode c = .number s m e := h
  conv => lhs; whnf
  rw [hd, h]
  rfl
theorem arch_floor {c : Nat} {s : Bool} {m : Nat} {e : Int} (h : Ieee.double.read c = .number s m e) (w : World) :
    (callFunc 41 #[.float .f64 c]).run Try.prog w = .ok (.value (.float .f64 (Ieee.double.write ((Ieee.double.read c).integral .down)))) w := by
  rw [run_callFunc_extern (e := Extern.MathFloor.toIntegral "math.archFloor" .down) Try.func41 (by kernel_rfl) (by kernel_rfl) (by kernel_rfl) (by kernel_rfl)]
  rw [floor_entry _ h]
  rfl
theorem mathFloor_any {c : Nat} {s : Bool} {m : Nat} {e : Int} (h : Ieee.double.read c = .number s m e) (w : World) :
    Calls Try.prog 35 #[.float .f64 c] w fun r w' => r = .returned (.float .f64 (Ieee.double.write ((Ieee.double.read c).integral .down))) ∧ w = w' := by
  have hf := arch_floor h
  rw [h] at hf ⊢
  go_enter Try.func35, Try.ntmps35
  go_wp2
  go_ret
  exact ⟨rfl, rfl⟩
set_option maxHeartbeats 1000000 in
theorem floorOf_any {b : Nat} {m : Nat} {e : Int} (h : Ieee.single.read b = .number false m e) (hN : whole m e < 2 ^ 24) (w : World) :
    Calls Try.prog 20 #[.float .f32 b] w fun r w' => r = .returned (.float .f32 (Ieee.single.nearest false (whole m e) 0)) ∧ w = w' := by
  obtain ⟨h1, h2, h3⟩ := single_num h
  obtain ⟨K, L, hr, hw⟩ := floor_conv h1 h2 h3 hN
  have hu := conv_up 27 25 Try.underlying27 Try.underlying25 h
  have hdn := conv_down 25 27 Try.underlying25 Try.underlying27 hr (by rw [hw]; exact int_fits false hN)
  rw [hw] at hdn
  have hc : ∃ s m' e', Ieee.double.read (Ieee.double.nearest false m e) = .number s m' e' := by
    by_cases h0 : m = 0
    · subst h0
      exact ⟨_, _, _, fl_zero _ (show 0 < Ieee.double.infRung from Nat.mul_pos (by decide) (Nat.two_pow_pos 52)) _ _⟩
    · have hl := (Nat.log2_lt h0).2 h1
      have d1 : Ieee.double.leastPlace = -1074 := by decide
      have d2 : Ieee.double.fractionBits = 52 := rfl
      have d3 : Ieee.double.exponentBits = 11 := rfl
      obtain ⟨j, hj⟩ := fl_write Ieee.double (s := false) (e := e) h0 (by rw [d2]; exact Nat.lt_trans h1 (by decide)) (by omega) (by rw [d1, d2, d3]; omega)
      exact ⟨_, _, _, hj⟩
  obtain ⟨s', m', e', hc⟩ := hc
  have HF := hd (fun w => mathFloor_any hc w)
  clear hc hr hw h
  generalize Ieee.single.nearest false (whole m e) 0 = z at *
  generalize Ieee.double.write ((Ieee.double.read (Ieee.double.nearest false m e)).integral .down) = y at *
  generalize Ieee.double.nearest false m e = x at *
  go_enter Try.func20, Try.ntmps20
  go_wp2_with (go_at_call 35; refine (HF.out _).mono ?_; rintro e w' ⟨rfl, hw⟩; subst hw)
  go_ret
  exact ⟨rfl, rfl⟩
theorem floorOf_neg (w : World) :
    Calls Try.prog 20 #[.float .f32 2147483648] w fun r w' => r = .returned (.float .f32 2147483648) ∧ w = w' := by
  have h : Ieee.single.read 2147483648 = .number true 0 (-149) := by decide
  have hu := conv_up 27 25 Try.underlying27 Try.underlying25 h
  have hz := floor_zero true (-149)
  have hdn := conv_down 25 27 Try.underlying25 Try.underlying27 hz (by decide)
  rw [show Ieee.single.nearest true 0 (-1074) = 2147483648 by decide] at hdn
  have hc : Ieee.double.read (Ieee.double.nearest true 0 (-149)) = .number true 0 Ieee.double.leastPlace := fl_zero _ (show 0 < Ieee.double.infRung from Nat.mul_pos (by decide) (Nat.two_pow_pos 52)) _ _
  have HF := hd (fun w => mathFloor_any hc w)
  clear hc hz h
  generalize Ieee.double.write ((Ieee.double.read (Ieee.double.nearest true 0 (-149))).integral .down) = y at *
  generalize Ieee.double.nearest true 0 (-149) = x at *
  go_enter Try.func20, Try.ntmps20
  go_wp2_with (go_at_call 35; refine (HF.out _).mono ?_; rintro e w' ⟨rfl, hw⟩; subst hw)
  go_ret
  exact ⟨rfl, rfl⟩
theorem int_of {b m : Nat} {e : Int} (h : Ieee.single.read b = .number false m e) (hN : whole m e < 2 ^ 24) : floatToIntVal .f32 b .i64 = some (whole m e : Int) := by
  have ht : (FloatKind.f32.decode b).toInt .zero = some (whole m e : Int) := by
    rw [show FloatKind.f32.decode b = .number false m e from h]
    exact trunc_int false
  unfold floatToIntVal
  rw [ht]
  generalize whole m e = N at *
  have h1 : (N : Int) ≤ 9223372036854775807 := by omega
  have h0 : IntKind.i64.min = -9223372036854775808 := by decide
  have h2 : IntKind.i64.min ≤ (N : Int) := by rw [h0]; omega
  simp [h2]
  exact h1
theorem int_neg : floatToIntVal .f32 2147483648 .i64 = some 0 := by decide +kernel
theorem floatOfInt_nat (N : Nat) : floatOfInt .f32 (N : Int) = Ieee.single.nearest false N 0 := by
  show Ieee.single.write (.number (decide ((N : Int) < 0)) (N : Int).natAbs 0) = _
  rw [decide_eq_false (by omega), Int.natAbs_natCast]
  rfl
end Go.Proofs.Ytpnbjfhcnjdohaa
