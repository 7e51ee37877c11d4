/- fraction, sine and PhasorOf of the program and of the reference: contracts, for turns from 0 to below 1. -/
import Derived.Test.YtdhmnajkmeclnaaProg
import Derived.Test.YtdhmnajkmeclnaaPhasT
import Derived.Test.YtdhmnajkmeclnaaFloats
import Derived.Test.YtdhmnajkmeclnaaNum
import Derived.Laws.Externs
import Derived.Laws.BitsAllLaws
import Derived.Sort.AtCall
namespace Go.Proofs.Ytdhmnajkmeclnaa
open Go.RowKit Plain
open Ieee
set_option linter.unusedVariables false
set_option linter.unusedSimpArgs false
attribute [local go_sem ↓] Go.wp_at_zero Go.wp_at_succ
theorem od_lt {x c : Nat} (h : x < c) (hc : c < double.infRung) : FloatKind.f64.format.order x c = some .lt := by
  rw [show FloatKind.f64.format = double from rfl, order_rung double (Nat.lt_trans h hc) hc]
  simp [compare, compareOfLessAndEq, h]
theorem od_ge {x c : Nat} (h : c ≤ x) (hx : x < double.infRung) : FloatKind.f64.format.order x c = some .gt ∨ FloatKind.f64.format.order x c = some .eq := by
  rw [show FloatKind.f64.format = double from rfl, order_rung double hx (Nat.lt_of_le_of_lt h hx)]
  simp only [compare, compareOfLessAndEq]
  by_cases e : x = c
  · subst e; right; simp
  · left; rw [if_neg (by omega), if_neg e]
theorem od_not_gt {x c : Nat} (h : x ≤ c) (hc : c < double.infRung) : (FloatKind.f64.format.order x c == some .gt) = false := by
  rw [show FloatKind.f64.format = double from rfl, order_rung double (Nat.lt_of_le_of_lt h hc) hc]
  simp only [compare, compareOfLessAndEq]
  by_cases e : x < c
  · rw [if_pos e]; rfl
  · rw [if_neg e, if_pos (by omega)]; rfl
theorem od_not_lt0 {x : Nat} (hx : x < double.infRung) : (FloatKind.f64.format.order x 0 == some .lt) = false := by
  rcases od_ge (Nat.zero_le x) hx with h | h <;> rw [h] <;> rfl
/-- far above -2^52 -/
theorem od_big {x : Nat} (hx : x < double.infRung) : FloatKind.f64.format.order x 14064741636278059008 = some .gt := by
  obtain ⟨K, L, h1, _⟩ := read_rung double hx
  have h2 : double.read 14064741636278059008 = .number true 4503599627370496 0 := by decide +kernel
  rw [show FloatKind.f64.format = double from rfl, Format.order, h1, h2]
  simp only [Datum.order, signed, Nat.shiftLeft_eq, if_true, if_false, Bool.false_eq_true, compare, compareOfLessAndEq]
  have h3 := Nat.two_pow_pos (0 - min L 0).toNat
  have h4 : 0 < 4503599627370496 * 2 ^ (0 - min L 0).toNat := Nat.mul_pos (by decide) h3
  generalize 4503599627370496 * 2 ^ (0 - min L 0).toNat = a at *
  generalize K * 2 ^ (L - min L 0).toNat = b
  rw [if_neg (by omega), if_neg (by omega)]
theorem int_none {x : Nat} (hx : x < 4607182418800017408) : floatToIntVal .f64 x .i64 = some 0 := by
  obtain ⟨K, L, h1, h2⟩ := read_rung double (show x < double.infRung by rw [dinf]; omega)
  have hw := whole_none h1 h2 hx
  have ht : (FloatKind.f64.decode x).toInt .zero = some ((whole K L : Nat) : Int) := by
    rw [show FloatKind.f64.decode x = .number false K L from h1]
    exact trunc_int false
  rw [hw] at ht
  unfold floatToIntVal
  rw [ht]
  rfl
theorem dzero : 0 < double.infRung := by decide
def wordOf (v : Value) : Nat := match v with | .float _ b => b | _ => 0
theorem loop_down : ∀ k, k < 9 → 1 ≤ k → double.nearest false (k - 1) 0 < double.nearest false k 0 := by decide +kernel
theorem loop_test : ∀ k, k < 9 → 2 ≤ k → double.order (double.nearest false k 0) 4607182418800017408 = some .gt := by decide +kernel
theorem loop_ends : double.order (double.nearest false 1 0) 4607182418800017408 = some .eq ∧ double.order (double.nearest false 0 0) 4607182418800017408 = some .lt ∧ double.nearest false 8 0 = 4620693217682128896 := by decide +kernel
set_option maxHeartbeats 1000000 in
theorem fraction_any {x : Nat} (hx : x < 4607182418800017408) (w : World) : Calls Try.prog 34 #[.float .f64 x] w fun r w' => r = .returned (.float .f64 x) ∧ w = w' := by
  have hi : x < double.infRung := by rw [dinf]; omega
  have C1 := fun w => run_convert_float_int (P := Try.prog) w 36 2 .f64 .i64 _ _ (by rw [Try.underlying36]; rfl) Try.underlying2 (int_none hx)
  have h0 : floatOfInt .f64 0 = 0 := by decide
  have S1 := fun w => run_float_arith (P := Try.prog) w .sub 36 .f64 x 0 x (sub_zero double hi dzero rvd_0)
  have T := od_not_lt0 hi
  clear hx hi
  go_enter Try.func34, Try.ntmps34
  go_wp2
  go_ret
  exact ⟨rfl, rfl⟩
set_option maxHeartbeats 4000000 in
set_option maxRecDepth 100000 in
theorem sine_any {x : Nat} (hx : x ≤ 4598175219545276416) (w : World) : Calls Try.prog 35 #[.float .f64 x] w fun r w' => r = .returned (.float .f64 (sineW x)) ∧ w = w' := by
  obtain ⟨u, m1, m2, hu, m3, hs⟩ := sine_all hx
  have HF := hd (fun w => fraction_any (x := x) (by omega) w)
  have T1 := od_lt (x := x) (c := 4602678819172646912) (by omega) (by rw [dinf]; omega)
  have T2 := od_not_gt (x := x) (c := 4598175219545276416) hx (by rw [dinf]; omega)
  have M1 := fun w => run_float_arith (P := Try.prog) w .mul 36 .f64 _ _ _ m1
  have M2 := fun w => run_float_arith (P := Try.prog) w .mul 36 .f64 _ _ _ m2
  have M3 := fun w => run_float_arith (P := Try.prog) w .mul 36 .f64 _ _ _ m3
  have HS := hd (fun k h1 h8 => ser_step (u := u) hu (k := k) h1 h8)
  have h8 := loop_ends.2.2
  clear m1 m2 m3 hs hu hx
  generalize sineW x = r at *
  generalize turnW x = z at *
  go_enter Try.func35, Try.ntmps35
  go_wp2_with (go_at_call 34; refine (HF.out _).mono ?_; rintro e w' ⟨rfl, hw⟩; subst hw)
  go_loopw [7, 8] (fun p k wr => ∃ i : Nat, i ≤ 8 ∧ k = .float .f64 (double.nearest false i 0) ∧ p = .float .f64 (serW u (8 - i)) ∧ wr = w) (fun _ k _ => wordOf k)
  case atStart => exact ⟨8, by omega, by rw [h8], rfl, rfl⟩
  case round =>
    clear HF T1 T2 M1 M2 h8
    obtain ⟨i, hi, rfl, rfl, rfl⟩ := hrel
    rcases Nat.eq_zero_or_pos i with h0 | h0
    · subst h0
      have T := loop_ends.2.1
      rw [show double = FloatKind.f64.format from rfl] at T
      clear HS
      generalize FloatKind.f64.format.nearest false 0 0 = kk at *
      generalize serW u (8 - 0) = p at *
      go_wp2
      go_ret
      exact ⟨rfl, rfl⟩
    · have T : FloatKind.f64.format.order (double.nearest false i 0) 4607182418800017408 = some .gt ∨ FloatKind.f64.format.order (double.nearest false i 0) 4607182418800017408 = some .eq := by
        rcases Nat.lt_or_ge i 2 with h | h
        · obtain rfl : i = 1 := by omega
          exact .inr loop_ends.1
        · exact .inl (loop_test i (by omega) h)
      obtain ⟨l1, l2, l3, l4⟩ := loop_words i (by omega) h0
      obtain ⟨y, q, s1, s2, s3⟩ := HS.out i h0 hi
      have L1 := fun w => run_float_arith (P := Try.prog) w .mul 36 .f64 _ _ _ l1
      have L2 := fun w => run_float_arith (P := Try.prog) w .add 36 .f64 _ _ _ l2
      have L3 := fun w => run_float_arith (P := Try.prog) w .mul 36 .f64 _ _ _ l3
      have L4 := fun w => run_float_arith (P := Try.prog) w .sub 36 .f64 _ _ _ l4
      have S1 := fun w => run_float_arith (P := Try.prog) w .mul 36 .f64 _ _ _ s1
      have S2 := fun w => run_float_arith (P := Try.prog) w .quo 36 .f64 _ _ _ s2
      have S3 := fun w => run_float_arith (P := Try.prog) w .sub 36 .f64 _ _ _ s3
      have hdn := hd (loop_down i (by omega) h0)
      have he := hd (show 8 - (i - 1) = 8 - i + 1 by omega)
      clear l1 l2 l3 l4 s1 s2 s3 HS M3
      generalize hk : double.nearest false i 0 = kk at *
      generalize hk1 : double.nearest false (i - 1) 0 = kj at *
      generalize double.nearest false (2 * i) 0 = k2 at *
      generalize double.nearest false (2 * i + 1) 0 = k3 at *
      generalize double.nearest false (2 * i * (2 * i + 1)) 0 = k4 at *
      generalize serW u (8 - i) = p at *
      have HK := hd hk1
      clear hk hk1
      rcases T with T | T
      all_goals
        go_wp2
        go_roundw
        case rel => exact ⟨i - 1, by omega, by rw [HK.out], by rw [he.out], by trivial⟩
        case measure => exact hdn.out
set_option maxHeartbeats 4000000 in
set_option maxRecDepth 100000 in
theorem l01Sine_any {x : Nat} (hx : x ≤ 4598175219545276416) (w : World) : Calls Try.prog 27 #[.float .f64 x] w fun r w' => r = .returned (.float .f64 (sineW x)) ∧ w = w' := by
  obtain ⟨u, m1, m2, hu, m3, hs⟩ := sine_all hx
  have hi : x < double.infRung := by rw [dinf]; omega
  have C1 := fun w => run_convert_float_int (P := Try.prog) w 36 2 .f64 .i64 _ _ (by rw [Try.underlying36]; rfl) Try.underlying2 (int_none (x := x) (by omega))
  have h0 : floatOfInt .f64 0 = 0 := by decide
  have Z1 := fun w => run_float_arith (P := Try.prog) w .sub 36 .f64 x 0 x (sub_zero double hi dzero rvd_0)
  have Z2 := fun w => run_float_arith (P := Try.prog) w .sub 36 .f64 x x 0 (sub_self double hi rvd_0)
  have Z3 : FloatKind.f64.format.order 0 0 = some .eq := by decide
  have T0 := od_not_lt0 hi
  have T1 := od_lt (x := x) (c := 4602678819172646912) (by omega) (by rw [dinf]; omega)
  have T2 := od_not_gt (x := x) (c := 4598175219545276416) hx (by rw [dinf]; omega)
  have T3 := od_lt (x := x) (c := 4841369599423283200) (by omega) (by rw [dinf]; omega)
  have T4 := od_big hi
  have M1 := fun w => run_float_arith (P := Try.prog) w .mul 36 .f64 _ _ _ m1
  have M2 := fun w => run_float_arith (P := Try.prog) w .mul 36 .f64 _ _ _ m2
  have M3 := fun w => run_float_arith (P := Try.prog) w .mul 36 .f64 _ _ _ m3
  have HS := hd (fun k h1 h8 => ser_step (u := u) hu (k := k) h1 h8)
  clear m1 m2 m3 hs hu hx hi
  generalize sineW x = r at *
  generalize turnW x = z at *
  go_enter Try.func27, Try.ntmps27
  go_wp2
  clear C1 Z1 Z2 Z3 T0 T1 T2 T3 T4 M1 M2 h0
  go_loopw [7, 8] (fun p k wr => ∃ i : Nat, i ≤ 8 ∧ k = .int .i64 i ∧ p = .float .f64 (serW u (8 - i)) ∧ wr = w) (fun _ k _ => (intOf k).toNat)
  case atStart => exact ⟨8, by omega, rfl, rfl, rfl⟩
  case round =>
    obtain ⟨i, hi, rfl, rfl, rfl⟩ := hrel
    rcases Nat.eq_zero_or_pos i with h0 | h0
    · subst h0
      clear HS
      generalize serW u (8 - 0) = p at *
      go_wp2
      go_ret
      exact ⟨rfl, rfl⟩
    · obtain ⟨y, q, s1, s2, s3⟩ := HS.out i h0 hi
      have hN : (2 * (i : Int)) * (2 * (i : Int) + 1) = ((2 * i * (2 * i + 1) : Nat) : Int) := by push_cast; rfl
      have hb : 2 * i * (2 * i + 1) ≤ 272 := Nat.le_trans (Nat.mul_le_mul (show 2 * i ≤ 16 by omega) (show 2 * i + 1 ≤ 17 by omega)) (by decide)
      rw [show double.nearest false (2 * i * (2 * i + 1)) 0 = floatOfInt .f64 ((2 * i * (2 * i + 1) : Nat) : Int) by
        show _ = double.write (.number (decide (((2 * i * (2 * i + 1) : Nat) : Int) < 0)) ((2 * i * (2 * i + 1) : Nat) : Int).natAbs 0)
        rw [decide_eq_false (by omega), Int.natAbs_natCast]
        rfl] at s2
      generalize 2 * i * (2 * i + 1) = N at *
      have S1 := fun w => run_float_arith (P := Try.prog) w .mul 36 .f64 _ _ _ s1
      have S2 := fun w => run_float_arith (P := Try.prog) w .quo 36 .f64 _ _ _ s2
      have S3 := fun w => run_float_arith (P := Try.prog) w .sub 36 .f64 _ _ _ s3
      have he := hd (show 8 - (i - 1) = 8 - i + 1 by omega)
      clear s1 s2 s3 HS M3
      generalize serW u (8 - i) = p at *
      go_wp2
      go_roundw
      case rel => exact ⟨i - 1, by omega, by go_num, by rw [he.out], by trivial⟩
      case measure => simp [intOf]; omega
end Go.Proofs.Ytdhmnajkmeclnaa
