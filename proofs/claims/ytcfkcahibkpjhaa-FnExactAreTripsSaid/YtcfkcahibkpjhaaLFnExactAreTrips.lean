/- Whatever list of trips is given, the program's AreTrips and the reference's return the same bool, and the law's own copies are left as they were: the law returns true. No condition. -/
import Derived.Test.YtcfkcahibkpjhaaRows
import Derived.Test.YtcfkcahibkpjhaaTrips
import Derived.Test.YtcfkcahibkpjhaaQSlice
import Derived.Test.YtcfkcahibkpjhaaOpen
namespace Go.Proofs.Ytcfkcahibkpjhaa.lFnExactAreTrips
open Go.ChangeShapes Go.WideShapes Go.ChangeAt Go.RowKit Go.Proofs.Ytcfkcahibkpjhaa Plain
set_option linter.unusedVariables false
attribute [local go_sem ↓] Go.wp_at_zero Go.wp_at_succ

set_option maxHeartbeats 400000 in
theorem specAreTrips_any (v : Value) (l : List Q4) (w : World) (hs : Sl w 4 v l.length (q4s l)) :
    Calls Try.prog 32 #[v] w fun r w' => r = .returned (.bool (tripsB l)) ∧ Below w.heap.size w w' := by
  go_enter Try.func32, Try.ntmps32
  go_wp2_with (go_at_call 104; refine (l06Trips_any _ l _ hs).mono ?_; rintro e w' ⟨rfl, hb⟩)
  go_ret
  exact ⟨rfl, hb⟩

set_option maxHeartbeats 400000 in
theorem walk (w : World) (v : Value) (xs : List Q4) (_hi : ∀ x ∈ xs, x.I64) (hs : Sl w 4 v xs.length (q4s xs)) :
    Calls Try.prog 6 #[v] w fun e w' => e = .returned (.bool true) ∧ Below w.heap.size w w' := by
  have hv : ∃ A cap, v = .slice A xs.length cap ∧ xs.length ≤ maxLen := by obtain ⟨A, cap, h, _, hr⟩ := hs; exact ⟨A, cap, h, hr.2.1⟩
  by_cases hx : xs.length ≤ 1048576
  · have hz := size_le hx
    have hsz := szTripS_any v xs.length 1048576 w hv (by omega) (by omega)
    rw [if_neg (by omega)] at hsz
    have Hsz := hd hsz
    have hp1 : (0 : Int) ≤ 1048576 - (xs.length : Int) := by omega
    clear hsz
    go_enter Try.func6, Try.ntmps6
    go_wp2_with fail
    refine Hsz.out.mono ?_; rintro e w' ⟨rfl, rfl⟩
    go_wp2_with fail
    refine (toTripS_any _ xs _ hs hx).mono ?_; rintro e w1 ⟨u1, rfl, ho1, hb1⟩
    go_wp2_with fail
    refine (specAreTrips_any _ xs _ (own_sl ho1 hz)).mono ?_; rintro e w2 ⟨rfl, hb2⟩
    have hb12 := below_tr hb2 hb1
    go_wp2_with fail
    refine (toTripS_any _ xs _ (hs.below hb12) hx).mono ?_; rintro e w3 ⟨u3, rfl, ho3, hb3⟩
    have hb13 := below_tr hb3 hb12
    go_wp2_with fail
    refine (AreTrips_any _ xs _ (own_sl ho3 hz)).mono ?_; rintro e w4 ⟨rfl, hb4⟩
    have hb14 := below_tr hb4 hb13
    go_wp2_with fail
    refine (toTripS_any _ xs _ (hs.below hb14) hx).mono ?_; rintro e w5 ⟨u5, rfl, ho5, hb5⟩
    have hb15 := below_tr hb5 hb14
    go_wp2_with fail
    refine (eqTripS_any _ _ xs xs _ (own_sl (own_below (own_below ho3 hb4) hb5) hz) (own_sl ho5 hz)).mono ?_; rintro e w6 ⟨rfl, hb6⟩
    have hb16 := below_tr hb6 hb15
    go_wp2_with fail
    go_ret
    exact ⟨rfl, hb16⟩
  · have hsz := szTripS_any v xs.length 1048576 w hv (by omega) (by omega)
    rw [if_pos (by omega)] at hsz
    have Hsz := hd hsz
    clear hsz
    go_enter Try.func6, Try.ntmps6
    go_wp2_with fail
    refine Hsz.out.mono ?_; rintro e w' ⟨rfl, rfl⟩
    go_wp2
    go_ret
    exact ⟨rfl, Below.refl _ _⟩

theorem own : ownKnob Try.prog.godebug = none := by kernel_rfl
theorem laidOut : laidOutB Try.prog = true := by kernel_rfl

set_option maxRecDepth 100000 in
theorem lifted (os : Os) (started : os.Started) (H : Type) (enc : TypeId × Value → H) :
    ReturnsInHanded {} Try.checked os 6 .any (Rows.fnExactAreTripsSpec.pre6 enc Try.prog Try.f6 Rows.fnExactAreTripsRow.domain false) (Rows.fnExactAreTripsSpec.post enc Try.prog Try.f6 false true false false) := by
  refine returnsInHanded_of_change (C := Try.checked) own started (by kernel_rfl) Try.func6
    (ChangeSpec.witness6 (enc := enc) (C := Try.checked) false ⟨#[], #[.slice none 0 0], []⟩ 8 (by kernel_rfl) (by kernel_rfl) (by kernel_rfl) (by kernel_rfl)) ?_
  intro W base args ds gs before hval0 hW hcnd _
  have hval : ∀ (j : Nat) t v, Try.f6.params[j]? = some t → args[j]? = some v → Value.okWide Try.prog W .any base t v := hval0
  have hW' := hW
  obtain ⟨p, q, hA0, hV, rfl, hfz, hnd⟩ := hW
  have hA : DataW.TrodAll enc Try.prog W 0 (fun _ => true) true Try.f6.params.toList args.toList ds p := hA0
  rw [Try.params6] at hA hval
  obtain ⟨v0, vs0, d0, ds0, p0, q0, hargs, rfl, rfl, h0, r0⟩ := trodAll_cons hA
  obtain ⟨rfl, rfl, rfl⟩ := trodAll_nil r0
  obtain rfl : args = #[v0] := by cases args; simp_all
  obtain ⟨rfl, rfl⟩ := trodVars_none hV
  have k0 := h0
  have lt0 : ∀ x ∈ p0, x.block < W.heap.size := by obtain ⟨m, hm⟩ := k0; exact DataW.trod_lt m _ _ _ hm
  obtain ⟨s0, len0, cap0, rfl⟩ := okWide_slice Try.underlying47 (hval 0 47 v0 rfl rfl)
  obtain ⟨x0, _, i0, w0⟩ := arg_q4 Try.underlying47 Try.underlying125 Try.underlying2 rfl (by kernel_rfl) (by kernel_rfl) h0
  clear hA0 hval0
  refine (walk W _ x0 i0 w0).mono fun e W' ⟨he, bel⟩ => ?_
  subst he
  exact ⟨_, rfl, _, _, _, [], _, [], hW', trodAll_mk1 (shut_bool Try.underlying4 _), (trodAll_cons_mk (Below.trod laidOut (by kernel_rfl) (of_decide_eq_true (by kernel_rfl)) k0 bel lt0) (trodAll_mk0)), rfl, bel.frame _, fun h => by cases h⟩

/-- The given statement. -/
theorem proved : Rows.FnExactAreTripsSaid :=
  OpenClaim.holds_of_wide 6 Try.f6 rfl rfl rfl rfl rfl rfl rfl ⟨rfl, rfl, rfl, rfl, rfl⟩ rfl rfl rfl rfl rfl (by kernel_rfl) Try.func6 (by kernel_rfl)
    (of_decide_eq_true (by kernel_rfl)) (by unfold Func.isWrapper; first | (rw [if_pos (by decide +kernel)]; kernel_rfl) | (rw [if_neg (by decide +kernel)]; exact ⟨rfl, rfl⟩))
    (fun os started H enc _ => lifted os started H enc)
#print axioms proved

end Go.Proofs.Ytcfkcahibkpjhaa.lFnExactAreTrips
