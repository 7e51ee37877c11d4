/- PhasorOf of the program and of the reference: contracts, for turns t / p with 0 <= t < p <= 60. -/
import Derived.Test.YtdhmnajkmeclnaaProg
import Derived.Test.YtdhmnajkmeclnaaSineI
namespace Go.Proofs.Ytdhmnajkmeclnaa
open Go.RowKit Plain
open Ieee
set_option linter.unusedVariables false
set_option linter.unusedSimpArgs false
attribute [local go_sem ↓] Go.wp_at_zero Go.wp_at_succ
theorem bits_run (x : Nat) (w : World) : (callFunc 44 #[.float .f64 x]).run Try.prog w = .ok (.value (.int .u64 x)) w := by
  rw [run_callFunc_extern (e := Extern.MathFloatBits.float64bits) Try.func44 (by kernel_rfl) (by kernel_rfl) (by kernel_rfl) (by kernel_rfl)]
  rfl
theorem frombits_run (x : Nat) (w : World) : (callFunc 43 #[.int .u64 x]).run Try.prog w = .ok (.value (.float .f64 x)) w := by
  rw [run_callFunc_extern (e := Extern.MathFloatBits.float64frombits) Try.func43 (by kernel_rfl) (by kernel_rfl) (by kernel_rfl) (by kernel_rfl)]
  rfl
theorem abs_bits {x : Nat} (hx : x < 9223372036854775808) : bits .andNot .u64 (x : Int) 9223372036854775808 = (x : Int) := by
  have h := u64_andNot_nat x 9223372036854775808 (by omega) (by omega)
  rw [show ((9223372036854775808 : Nat) : Int) = 9223372036854775808 from rfl] at h
  rw [h, show 18446744073709551615 - 9223372036854775808 = 2 ^ 63 - 1 by decide, Nat.and_two_pow_sub_one_eq_mod, Nat.mod_eq_of_lt (by omega)]
set_option maxHeartbeats 400000 in
theorem abs_any {x : Nat} (hx : x < 9223372036854775808) (w : World) : Calls Try.prog 33 #[.float .f64 x] w fun r w' => r = .returned (.float .f64 x) ∧ w = w' := by
  have h1 := bits_run x
  have h2 := frombits_run x
  have h3 := abs_bits hx
  clear hx
  go_enter Try.func33, Try.ntmps33
  go_wp2
  go_ret
  exact ⟨rfl, rfl⟩
set_option maxHeartbeats 400000 in
theorem isFinite64_t {x : Nat} (hx : x < double.infRung) (w : World) : Calls Try.prog 31 #[.float .f64 x] w fun r w' => r = .returned (.bool true) ∧ w = w' := by
  have Z2 := fun w => run_float_arith (P := Try.prog) w .sub 36 .f64 x x 0 (sub_self double hx rvd_0)
  have Z3 : FloatKind.f64.format.order 0 0 = some .eq := by decide
  go_enter Try.func31, Try.ntmps31
  go_wp2
  go_ret
  exact ⟨rfl, rfl⟩
set_option maxHeartbeats 400000 in
theorem l01Narrow_num {b r : Nat} (h : floatToFloatBits .f64 b .f32 = some r) (w : World) : Calls Try.prog 28 #[.float .f64 b] w fun e w' => e = .returned (.float .f32 r) ∧ w = w' := by
  have C := fun w => run_convert_float_float (P := Try.prog) w 36 32 .f64 .f32 b r (by rw [Try.underlying36]; rfl) Try.underlying32 h
  go_enter Try.func28, Try.ntmps28
  go_wp2
  go_ret
  exact ⟨rfl, rfl⟩
/-- what a step of the loop over the quarters shows -/
theorem red_step {k f q F Q : Nat} (h : redW k f q = some (F, Q)) (hf : 4598175219545276416 ≤ f) (hl : f < 4607182418800017408) : ∃ j g, k = j + 1 ∧ double.sub f 4598175219545276416 = some g ∧ redW j g (q + 1) = some (F, Q) ∧ g < 4607182418800017408 := by
  cases k with
  | zero => cases h
  | succ k =>
    rw [redW, if_pos hf] at h
    cases hd : double.sub f 4598175219545276416 with
    | none => rw [hd] at h; cases h
    | some g =>
      rw [hd] at h
      refine ⟨k, g, rfl, rfl, h, ?_⟩
      obtain ⟨z, h1, _, h3, _⟩ := sub_rn double (show f < double.infRung by rw [dinf]; omega) (show 4598175219545276416 < double.infRung by rw [dinf]; omega) hf
      rw [h1] at hd
      injection hd with hd
      subst hd
      have : z ≤ f := h3 f (by rw [rvd_q]; grind)
      omega
theorem red_end {k f q F Q : Nat} (h : redW k f q = some (F, Q)) (hf : ¬ 4598175219545276416 ≤ f) : F = f ∧ Q = q := by
  cases k with
  | zero => cases h
  | succ k =>
    rw [redW, if_neg hf] at h
    injection h with h
    injection h with h1 h2
    exact ⟨h1.symm, h2.symm⟩
set_option maxHeartbeats 4000000 in
set_option maxRecDepth 100000 in
theorem phasor_any {t p f0 F Q : Nat} (h : Turns t p f0 F Q) (w : World) : Calls Try.prog 19 #[.float .f64 f0] w fun r w' => r = .returned (.complex .f32 (narW (cosQ F Q)) (narW (sinQ F Q))) ∧ w = w' := by
  obtain ⟨_, hlow, hred⟩ := h
  have hF := Nat.le_of_lt (red_low hred)
  have hi : f0 < double.infRung := by rw [dinf]; omega
  have HI := hd (fun w => isFinite64_t hi w)
  have HA := hd (fun w => abs_any (x := f0) (by omega) w)
  have HFr := hd (fun w => fraction_any hlow w)
  have T3 := od_lt (x := f0) (c := 4841369599423283200) (by omega) (by rw [dinf]; omega)
  obtain ⟨d1, d2⟩ := side_ok hF
  have HC := hd (fun w => sine_any d2 w)
  have HS := hd (fun w => sine_any hF w)
  obtain ⟨_, _, _, _, _, c1⟩ := sine_all d2
  obtain ⟨_, _, _, _, _, s1⟩ := sine_all hF
  obtain ⟨nc, vc, zc, ec, bc⟩ := neg_ok c1
  obtain ⟨ns, vs, zs, es, bs⟩ := neg_ok s1
  have kc := (nar_ok (v := false) c1).1
  have ks := (nar_ok (v := false) s1).1
  rw [word_false] at kc ks
  have knc := (nar_ok (v := vc) bc).1
  have kns := (nar_ok (v := vs) bs).1
  rw [← ec] at knc
  rw [← es] at kns
  have D1 := fun w => run_float_arith (P := Try.prog) w .sub 36 .f64 _ _ _ d1
  have N1 := fun w => run_float_arith (P := Try.prog) w .sub 36 .f64 _ _ _ nc
  have N2 := fun w => run_float_arith (P := Try.prog) w .sub 36 .f64 _ _ _ ns
  have K1 := fun w => run_convert_float_float (P := Try.prog) w 36 32 .f64 .f32 _ _ (by rw [Try.underlying36]; rfl) Try.underlying32 kc
  have K2 := fun w => run_convert_float_float (P := Try.prog) w 36 32 .f64 .f32 _ _ (by rw [Try.underlying36]; rfl) Try.underlying32 ks
  have K3 := fun w => run_convert_float_float (P := Try.prog) w 36 32 .f64 .f32 _ _ (by rw [Try.underlying36]; rfl) Try.underlying32 knc
  have K4 := fun w => run_convert_float_float (P := Try.prog) w 36 32 .f64 .f32 _ _ (by rw [Try.underlying36]; rfl) Try.underlying32 kns
  have HX := hd (show ∀ q, (q = 0 → cosQ F q = sineW (sideW F) ∧ sinQ F q = sineW F) ∧ (q = 1 → cosQ F q = negW (sineW F) ∧ sinQ F q = sineW (sideW F)) ∧ (q = 2 → cosQ F q = negW (sineW (sideW F)) ∧ sinQ F q = negW (sineW F)) ∧ (q = 3 → cosQ F q = sineW F ∧ sinQ F q = negW (sineW (sideW F))) ∧ (q = 4 → cosQ F q = sineW (sideW F) ∧ sinQ F q = sineW F) from fun q => ⟨fun h => by subst h; exact ⟨rfl, rfl⟩, fun h => by subst h; exact ⟨rfl, rfl⟩, fun h => by subst h; exact ⟨rfl, rfl⟩, fun h => by subst h; exact ⟨rfl, rfl⟩, fun h => by subst h; exact ⟨rfl, rfl⟩⟩)
  clear kc ks knc kns nc ns ec es bc bs c1 s1 d1 d2 hi hF
  have HR := hd hred
  clear hred
  generalize negW (sineW F) = ns at *
  generalize negW (sineW (sideW F)) = nc at *
  generalize sineW (sideW F) = c at *
  generalize sineW F = s at *
  generalize sideW F = d at *
  go_enter Try.func19, Try.ntmps19
  go_wp2_with (first
    | (go_at_call 31; refine (HI.out _).mono ?_; rintro e w' ⟨rfl, hw⟩; subst hw)
    | (go_at_call 33; refine (HA.out _).mono ?_; rintro e w' ⟨rfl, hw⟩; subst hw)
    | (go_at_call 34; refine (HFr.out _).mono ?_; rintro e w' ⟨rfl, hw⟩; subst hw))
  clear HI HA HFr T3
  go_loopw [4, 5] (fun ff qq wr => ∃ k f q : Nat, ff = .float .f64 f ∧ qq = .int .i64 q ∧ Hid (redW k f q = some (F, Q)) ∧ f < 4607182418800017408 ∧ q + k ≤ 4 ∧ wr = w) (fun _ qq _ => 4 - (intOf qq).toNat)
  case atStart => exact ⟨4, f0, 0, rfl, rfl, HR, hlow, by omega, rfl⟩
  case round =>
    clear HR hlow
    obtain ⟨k, f, q, rfl, rfl, hR, hlow, hk, rfl⟩ := hrel
    by_cases hf : 4598175219545276416 ≤ f
    · obtain ⟨j, g, rfl, hg, hR2, hlow2⟩ := red_step hR.out hf hlow
      have G1 := fun w => run_float_arith (P := Try.prog) w .sub 36 .f64 _ _ _ hg
      have HR2 := hd hR2
      have HL2 := hd hlow2
      have T := od_ge hf (by rw [dinf]; omega)
      clear hR hR2 hg hlow2 hlow hf D1 N1 N2 K1 K2 K3 K4 HC HS HX
      rcases T with T | T
      all_goals
        go_wp2
        go_roundw
        case rel => exact ⟨j, g, q + 1, rfl, by go_num, HR2, HL2.out, by omega, by trivial⟩
        case measure => simp [intOf]; omega
    · obtain ⟨rfl, rfl⟩ := red_end hR.out hf
      have T := od_lt (x := F) (c := 4598175219545276416) (by omega) (by rw [dinf]; omega)
      obtain ⟨x0, x1, x2, x3, x4⟩ := HX.out Q
      have hq : Q = 0 ∨ Q = 1 ∨ Q = 2 ∨ Q = 3 ∨ Q = 4 := by omega
      clear HX hR hf hlow hk
      rcases hq with rfl | rfl | rfl | rfl | rfl
      · obtain ⟨e1, e2⟩ := x0 rfl
        have E1 := hd e1
        have E2 := hd e2
        clear x0 x1 x2 x3 x4 e1 e2
        go_wp2_with (first | (go_at_call_has 35 d; refine (HC.out _).mono ?_; rintro e w' ⟨rfl, hw⟩; subst hw) | (go_at_call_has 35 F; refine (HS.out _).mono ?_; rintro e w' ⟨rfl, hw⟩; subst hw))
        go_ret
        rw [E1.out, E2.out]
        exact ⟨rfl, rfl⟩
      · obtain ⟨e1, e2⟩ := x1 rfl
        have E1 := hd e1
        have E2 := hd e2
        clear x0 x1 x2 x3 x4 e1 e2
        go_wp2_with (first | (go_at_call_has 35 d; refine (HC.out _).mono ?_; rintro e w' ⟨rfl, hw⟩; subst hw) | (go_at_call_has 35 F; refine (HS.out _).mono ?_; rintro e w' ⟨rfl, hw⟩; subst hw))
        go_ret
        rw [E1.out, E2.out]
        exact ⟨rfl, rfl⟩
      · obtain ⟨e1, e2⟩ := x2 rfl
        have E1 := hd e1
        have E2 := hd e2
        clear x0 x1 x2 x3 x4 e1 e2
        go_wp2_with (first | (go_at_call_has 35 d; refine (HC.out _).mono ?_; rintro e w' ⟨rfl, hw⟩; subst hw) | (go_at_call_has 35 F; refine (HS.out _).mono ?_; rintro e w' ⟨rfl, hw⟩; subst hw))
        go_ret
        rw [E1.out, E2.out]
        exact ⟨rfl, rfl⟩
      · obtain ⟨e1, e2⟩ := x3 rfl
        have E1 := hd e1
        have E2 := hd e2
        clear x0 x1 x2 x3 x4 e1 e2
        go_wp2_with (first | (go_at_call_has 35 d; refine (HC.out _).mono ?_; rintro e w' ⟨rfl, hw⟩; subst hw) | (go_at_call_has 35 F; refine (HS.out _).mono ?_; rintro e w' ⟨rfl, hw⟩; subst hw))
        go_ret
        rw [E1.out, E2.out]
        exact ⟨rfl, rfl⟩
      · obtain ⟨e1, e2⟩ := x4 rfl
        have E1 := hd e1
        have E2 := hd e2
        clear x0 x1 x2 x3 x4 e1 e2
        go_wp2_with (first | (go_at_call_has 35 d; refine (HC.out _).mono ?_; rintro e w' ⟨rfl, hw⟩; subst hw) | (go_at_call_has 35 F; refine (HS.out _).mono ?_; rintro e w' ⟨rfl, hw⟩; subst hw))
        go_ret
        rw [E1.out, E2.out]
        exact ⟨rfl, rfl⟩
set_option maxHeartbeats 4000000 in
set_option maxRecDepth 100000 in
theorem l01Phasor_any {t p f0 F Q : Nat} (h : Turns t p f0 F Q) (w : World) : Calls Try.prog 17 #[.float .f64 f0] w fun r w' => r = .returned (.complex .f32 (narW (cosQ F Q)) (narW (sinQ F Q))) ∧ w = w' := by
  obtain ⟨_, hlow, hred⟩ := h
  have hF := Nat.le_of_lt (red_low hred)
  have hi : f0 < double.infRung := by rw [dinf]; omega
  have C1 := fun w => run_convert_float_int (P := Try.prog) w 36 2 .f64 .i64 _ _ (by rw [Try.underlying36]; rfl) Try.underlying2 (int_none hlow)
  have h0 : floatOfInt .f64 0 = 0 := by decide
  have Z1 := fun w => run_float_arith (P := Try.prog) w .sub 36 .f64 f0 0 f0 (sub_zero double hi dzero rvd_0)
  have Z2 := fun w => run_float_arith (P := Try.prog) w .sub 36 .f64 f0 f0 0 (sub_self double hi rvd_0)
  have Z3 : FloatKind.f64.format.order 0 0 = some .eq := by decide
  have T0 := od_not_lt0 hi
  have T4 := od_big hi
  have T3 := od_lt (x := f0) (c := 4841369599423283200) (by omega) (by rw [dinf]; omega)
  obtain ⟨d1, d2⟩ := side_ok hF
  have HC := hd (fun w => l01Sine_any d2 w)
  have HS := hd (fun w => l01Sine_any hF w)
  obtain ⟨_, _, _, _, _, c1⟩ := sine_all d2
  obtain ⟨_, _, _, _, _, s1⟩ := sine_all hF
  obtain ⟨nc, vc, zc, ec, bc⟩ := neg_ok c1
  obtain ⟨ns, vs, zs, es, bs⟩ := neg_ok s1
  have kc := (nar_ok (v := false) c1).1
  have ks := (nar_ok (v := false) s1).1
  rw [word_false] at kc ks
  have knc := (nar_ok (v := vc) bc).1
  have kns := (nar_ok (v := vs) bs).1
  rw [← ec] at knc
  rw [← es] at kns
  have D1 := fun w => run_float_arith (P := Try.prog) w .sub 36 .f64 _ _ _ d1
  have N1 := fun w => run_float_arith (P := Try.prog) w .sub 36 .f64 _ _ _ nc
  have N2 := fun w => run_float_arith (P := Try.prog) w .sub 36 .f64 _ _ _ ns
  have V1 := hd (fun w => l01Narrow_num kc w)
  have V2 := hd (fun w => l01Narrow_num ks w)
  have V3 := hd (fun w => l01Narrow_num knc w)
  have V4 := hd (fun w => l01Narrow_num kns w)
  have HX := hd (show ∀ q, (q = 0 → cosQ F q = sineW (sideW F) ∧ sinQ F q = sineW F) ∧ (q = 1 → cosQ F q = negW (sineW F) ∧ sinQ F q = sineW (sideW F)) ∧ (q = 2 → cosQ F q = negW (sineW (sideW F)) ∧ sinQ F q = negW (sineW F)) ∧ (q = 3 → cosQ F q = sineW F ∧ sinQ F q = negW (sineW (sideW F))) ∧ (q = 4 → cosQ F q = sineW (sideW F) ∧ sinQ F q = sineW F) from fun q => ⟨fun h => by subst h; exact ⟨rfl, rfl⟩, fun h => by subst h; exact ⟨rfl, rfl⟩, fun h => by subst h; exact ⟨rfl, rfl⟩, fun h => by subst h; exact ⟨rfl, rfl⟩, fun h => by subst h; exact ⟨rfl, rfl⟩⟩)
  clear kc ks knc kns nc ns ec es bc bs c1 s1 d1 d2 hi hF
  have HR := hd hred
  clear hred
  generalize negW (sineW F) = ns at *
  generalize negW (sineW (sideW F)) = nc at *
  generalize sineW (sideW F) = c at *
  generalize sineW F = s at *
  generalize sideW F = d at *
  go_enter Try.func17, Try.ntmps17
  go_wp2
  clear T3 C1 h0 Z1 Z2 Z3 T0 T4
  go_loopw [3, 4] (fun ff qq wr => ∃ k f q : Nat, ff = .float .f64 f ∧ qq = .int .i64 q ∧ Hid (redW k f q = some (F, Q)) ∧ f < 4607182418800017408 ∧ q + k ≤ 4 ∧ wr = w) (fun _ qq _ => 4 - (intOf qq).toNat)
  case atStart => exact ⟨4, f0, 0, rfl, rfl, HR, hlow, by omega, rfl⟩
  case round =>
    clear HR hlow
    obtain ⟨k, f, q, rfl, rfl, hR, hlow, hk, rfl⟩ := hrel
    by_cases hf : 4598175219545276416 ≤ f
    · obtain ⟨j, g, rfl, hg, hR2, hlow2⟩ := red_step hR.out hf hlow
      have G1 := fun w => run_float_arith (P := Try.prog) w .sub 36 .f64 _ _ _ hg
      have HR2 := hd hR2
      have HL2 := hd hlow2
      have T := od_ge hf (by rw [dinf]; omega)
      clear hR hR2 hg hlow2 hlow hf D1 N1 N2 V1 V2 V3 V4 HC HS HX
      rcases T with T | T
      all_goals
        go_wp2
        go_roundw
        case rel => exact ⟨j, g, q + 1, rfl, by go_num, HR2, HL2.out, by omega, by trivial⟩
        case measure => simp [intOf]; omega
    · obtain ⟨rfl, rfl⟩ := red_end hR.out hf
      have T := od_lt (x := F) (c := 4598175219545276416) (by omega) (by rw [dinf]; omega)
      obtain ⟨x0, x1, x2, x3, x4⟩ := HX.out Q
      have hq : Q = 0 ∨ Q = 1 ∨ Q = 2 ∨ Q = 3 ∨ Q = 4 := by omega
      clear HX hR hf hlow hk
      rcases hq with rfl | rfl | rfl | rfl | rfl
      · obtain ⟨e1, e2⟩ := x0 rfl
        have E1 := hd e1
        have E2 := hd e2
        clear x0 x1 x2 x3 x4 e1 e2
        go_wp2_with (first | (go_at_call_has 28 c; refine (V1.out _).mono ?_; rintro e w' ⟨rfl, hw⟩; subst hw) | (go_at_call_has 28 s; refine (V2.out _).mono ?_; rintro e w' ⟨rfl, hw⟩; subst hw) | (go_at_call_has 28 nc; refine (V3.out _).mono ?_; rintro e w' ⟨rfl, hw⟩; subst hw) | (go_at_call_has 28 ns; refine (V4.out _).mono ?_; rintro e w' ⟨rfl, hw⟩; subst hw) | (go_at_call_has 27 d; refine (HC.out _).mono ?_; rintro e w' ⟨rfl, hw⟩; subst hw) | (go_at_call_has 27 F; refine (HS.out _).mono ?_; rintro e w' ⟨rfl, hw⟩; subst hw))
        go_ret
        rw [E1.out, E2.out]
        exact ⟨rfl, rfl⟩
      · obtain ⟨e1, e2⟩ := x1 rfl
        have E1 := hd e1
        have E2 := hd e2
        clear x0 x1 x2 x3 x4 e1 e2
        go_wp2_with (first | (go_at_call_has 28 c; refine (V1.out _).mono ?_; rintro e w' ⟨rfl, hw⟩; subst hw) | (go_at_call_has 28 s; refine (V2.out _).mono ?_; rintro e w' ⟨rfl, hw⟩; subst hw) | (go_at_call_has 28 nc; refine (V3.out _).mono ?_; rintro e w' ⟨rfl, hw⟩; subst hw) | (go_at_call_has 28 ns; refine (V4.out _).mono ?_; rintro e w' ⟨rfl, hw⟩; subst hw) | (go_at_call_has 27 d; refine (HC.out _).mono ?_; rintro e w' ⟨rfl, hw⟩; subst hw) | (go_at_call_has 27 F; refine (HS.out _).mono ?_; rintro e w' ⟨rfl, hw⟩; subst hw))
        go_ret
        rw [E1.out, E2.out]
        exact ⟨rfl, rfl⟩
      · obtain ⟨e1, e2⟩ := x2 rfl
        have E1 := hd e1
        have E2 := hd e2
        clear x0 x1 x2 x3 x4 e1 e2
        go_wp2_with (first | (go_at_call_has 28 c; refine (V1.out _).mono ?_; rintro e w' ⟨rfl, hw⟩; subst hw) | (go_at_call_has 28 s; refine (V2.out _).mono ?_; rintro e w' ⟨rfl, hw⟩; subst hw) | (go_at_call_has 28 nc; refine (V3.out _).mono ?_; rintro e w' ⟨rfl, hw⟩; subst hw) | (go_at_call_has 28 ns; refine (V4.out _).mono ?_; rintro e w' ⟨rfl, hw⟩; subst hw) | (go_at_call_has 27 d; refine (HC.out _).mono ?_; rintro e w' ⟨rfl, hw⟩; subst hw) | (go_at_call_has 27 F; refine (HS.out _).mono ?_; rintro e w' ⟨rfl, hw⟩; subst hw))
        go_ret
        rw [E1.out, E2.out]
        exact ⟨rfl, rfl⟩
      · obtain ⟨e1, e2⟩ := x3 rfl
        have E1 := hd e1
        have E2 := hd e2
        clear x0 x1 x2 x3 x4 e1 e2
        go_wp2_with (first | (go_at_call_has 28 c; refine (V1.out _).mono ?_; rintro e w' ⟨rfl, hw⟩; subst hw) | (go_at_call_has 28 s; refine (V2.out _).mono ?_; rintro e w' ⟨rfl, hw⟩; subst hw) | (go_at_call_has 28 nc; refine (V3.out _).mono ?_; rintro e w' ⟨rfl, hw⟩; subst hw) | (go_at_call_has 28 ns; refine (V4.out _).mono ?_; rintro e w' ⟨rfl, hw⟩; subst hw) | (go_at_call_has 27 d; refine (HC.out _).mono ?_; rintro e w' ⟨rfl, hw⟩; subst hw) | (go_at_call_has 27 F; refine (HS.out _).mono ?_; rintro e w' ⟨rfl, hw⟩; subst hw))
        go_ret
        rw [E1.out, E2.out]
        exact ⟨rfl, rfl⟩
      · obtain ⟨e1, e2⟩ := x4 rfl
        have E1 := hd e1
        have E2 := hd e2
        clear x0 x1 x2 x3 x4 e1 e2
        go_wp2_with (first | (go_at_call_has 28 c; refine (V1.out _).mono ?_; rintro e w' ⟨rfl, hw⟩; subst hw) | (go_at_call_has 28 s; refine (V2.out _).mono ?_; rintro e w' ⟨rfl, hw⟩; subst hw) | (go_at_call_has 28 nc; refine (V3.out _).mono ?_; rintro e w' ⟨rfl, hw⟩; subst hw) | (go_at_call_has 28 ns; refine (V4.out _).mono ?_; rintro e w' ⟨rfl, hw⟩; subst hw) | (go_at_call_has 27 d; refine (HC.out _).mono ?_; rintro e w' ⟨rfl, hw⟩; subst hw) | (go_at_call_has 27 F; refine (HS.out _).mono ?_; rintro e w' ⟨rfl, hw⟩; subst hw))
        go_ret
        rw [E1.out, E2.out]
        exact ⟨rfl, rfl⟩
end Go.Proofs.Ytdhmnajkmeclnaa
