/- Whatever two lists of trips are given, the program's SameTrips and the reference's return the same bool, and the law's own copies are left as they were: the law returns true. No condition. -/
import Derived.Test.YtcfkcahibkpjhaaRows
import Derived.Test.YtcfkcahibkpjhaaEqualQ
import Derived.Test.YtcfkcahibkpjhaaOpen
namespace Go.Proofs.Ytcfkcahibkpjhaa.lFnExactSameTrips
open Go.ChangeShapes Go.WideShapes Go.ChangeAt Go.RowKit Go.Proofs.Ytcfkcahibkpjhaa Plain
set_option linter.unusedVariables false
set_option linter.unusedSimpArgs false
attribute [local go_sem ↓] Go.wp_at_zero Go.wp_at_succ

theorem q4_cases (a b c d a' b' c' d' : Int) : ((a != a') = true) ∨ (a = a' ∧ (b != b') = true) ∨ (a = a' ∧ b = b' ∧ (c != c') = true) ∨ (a = a' ∧ b = b' ∧ c = c' ∧ (d != d') = true) ∨ (a = a' ∧ b = b' ∧ c = c' ∧ d = d') := by
  simp only [bne_iff_ne, ne_eq]
  omega
set_option maxHeartbeats 2000000 in
theorem specS (v u : Value) (xs ys : List Q4) (w : World) (hs : Sl w 4 v xs.length (q4s xs)) (ht : Sl w 4 u ys.length (q4s ys)) :
    Calls Try.prog 36 #[v, u] w (Draws (.bool (decide (xs = ys))) w) := by
  obtain ⟨A, cap, rfl, hcap, hr⟩ := hs
  obtain ⟨A', cap', rfl, hcap', hr'⟩ := ht
  have hm := hr.2.1
  have hm' := hr'.2.1
  unfold maxLen at hm hm'
  generalize hn : xs.length = n at *
  generalize hn' : ys.length = n' at *
  have Hn := hd hn.symm
  have Hn' := hd hn'.symm
  clear hn hn'
  by_cases hnn : n = n'
  · subst hnn
    go_enter Try.func36, Try.ntmps36
    go_wp2
    go_loopw [5] (fun i wr => ∃ k : Nat, k ≤ n ∧ i = .int .i64 k ∧ Hid (xs.take k = ys.take k) ∧ ∃ m, wr = w.drewN m) (fun i _ => n - (intOf i).toNat)
    case atStart => exact ⟨0, by omega, rfl, by simp [Hid], 0, rfl⟩
    case round =>
      obtain ⟨k, hk, rfl, he, m, rfl⟩ := hrel
      by_cases hlt : k < n
      · obtain ⟨b, off, qa, qb, qc, qd, rfl, hq, c0, c1, c2, c3⟩ := hr.q4 hlt
        obtain ⟨b', off', ra, rb, rc, rd, rfl, hq', d0, d1, d2, d3⟩ := hr'.q4 hlt
        have i1 : (0 : Int) ≤ (k : Int) := by omega
        have i2 : (k : Int) < (n : Int) := by omega
        clear hr hr'
        go_wp2
        rcases q4_cases qa qb qc qd ra rb rc rd with h | ⟨rfl, h⟩ | ⟨rfl, rfl, h⟩ | ⟨rfl, rfl, rfl, h⟩ | ⟨rfl, rfl, rfl, rfl⟩
        case inr.inr.inr.inr =>
          go_quiet (fail)
          go_wp2
          go_roundw
          case rel => exact ⟨k + 1, by omega, by go_num, take_succ_of he.out hq.out hq'.out, by first | exact ⟨_, rfl⟩ | exact drew2 _ _ _⟩
          case measure => simp [intOf]; omega
        all_goals
          go_quiet (fail)
          go_wp2
          go_ret
          refine ⟨ret_bool ?_, by first | exact ⟨_, rfl⟩ | exact drew2 _ _ _⟩
          symm
          rw [decide_eq_false_iff_not]
          refine ne_of_get hq.out hq'.out fun e => ?_
          have e := Q4.mk.inj e
          rw [bne_iff_ne] at h
          omega
      · have hkn : k = n := by omega
        subst hkn
        go_wp2
        go_ret
        exact ⟨ret_bool (by simpa using (eq_of_take he.out Hn.out.symm Hn'.out.symm)), _, rfl⟩
  · go_enter Try.func36, Try.ntmps36
    have hne : ¬ ((n : Int) = (n' : Int)) := by omega
    go_wp2
    go_ret
    refine ⟨ret_bool ?_, 0, rfl⟩
    symm
    rw [decide_eq_false_iff_not]
    rintro rfl
    exact hnn (Hn.out.trans Hn'.out.symm)
theorem spec_any (w : World) (v : Value) (x : List Q4) (_i : ∀ y ∈ x, y.I64) (_b : x.length ≤ 1048576) (s : Sl w 4 v x.length (q4s x)) (u : Value) (y : List Q4) (_j : ∀ z ∈ y, z.I64) (_c : y.length ≤ 1048576) (t : Sl w 4 u y.length (q4s y)) :
    Calls Try.prog 36 #[v, u] w fun r w' => r = .returned (.bool (decide (x = y))) ∧ Below w.heap.size w w' :=
  (specS v u x y w s t).mono fun _ _ ⟨h, m, e⟩ => ⟨h, e ▸ below_drewN (Below.refl _ _) m⟩
set_option maxHeartbeats 400000 in
theorem impl_any (w : World) (v : Value) (x : List Q4) (_i : ∀ y ∈ x, y.I64) (_b : x.length ≤ 1048576) (s : Sl w 4 v x.length (q4s x)) (u : Value) (y : List Q4) (_j : ∀ z ∈ y, z.I64) (_c : y.length ≤ 1048576) (t : Sl w 4 u y.length (q4s y)) :
    Calls Try.prog 37 #[v, u] w fun r w' => r = .returned (.bool (decide (x = y))) ∧ Below w.heap.size w w' := by
  have H := hd (equalTrip_any v u x y w s t)
  generalize decide (x = y) = q at *
  clear _i _j s t
  go_enter Try.func37, Try.ntmps37
  go_wp2_with fail
  refine H.out.mono ?_; rintro e w' ⟨rfl, m, rfl⟩
  go_wp2
  go_ret
  exact ⟨rfl, below_drewN (Below.refl _ _) m⟩

set_option maxHeartbeats 2000000 in
set_option maxRecDepth 100000 in
theorem walk (w : World) (v0 : Value) (x0 : List Q4) (i0 : ∀ x ∈ x0, x.I64) (s0 : Sl w 4 v0 x0.length (q4s x0)) (v1 : Value) (x1 : List Q4) (i1 : ∀ x ∈ x1, x.I64) (s1 : Sl w 4 v1 x1.length (q4s x1)) :
    Calls Try.prog 7 #[v0, v1] w fun e w' => e = .returned (.bool true) ∧ Below w.heap.size w w' := by
  obtain ⟨A0, cap0, hw0, _, hr0⟩ := id s0
  have hv0 := hd hw0; clear hw0
  obtain ⟨A1, cap1, hw1, _, hr1⟩ := id s1
  have hv1 := hd hw1; clear hw1
  have hm0 := hr0.2.1
  have hm1 := hr1.2.1
  have hz0 := hd (szTripS_any v0 x0.length (1048576) w ⟨A0, cap0, hv0.out, hm0⟩ (by omega) (by omega))
  by_cases c0 : (1048576 : Int) < x0.length
  · rw [if_pos c0] at hz0
    go_enter Try.func7, Try.ntmps7
    go_wp2_with fail
    refine hz0.out.mono ?_; rintro e w' ⟨rfl, rfl⟩
    go_wp2
    go_ret
    exact ⟨rfl, Below.refl _ _⟩
  rw [if_neg c0] at hz0
  have l0 : (0 : Int) ≤ 1048576 - x0.length := by omega
  have b0 : x0.length ≤ 1048576 := by omega
  have hz1 := hd (szTripS_any v1 x1.length (1048576 - x0.length) w ⟨A1, cap1, hv1.out, hm1⟩ (by omega) (by omega))
  by_cases c1 : (1048576 - x0.length : Int) < x1.length
  · rw [if_pos c1] at hz1
    go_enter Try.func7, Try.ntmps7
    go_wp2_with fail
    refine hz0.out.mono ?_; rintro e w' ⟨rfl, rfl⟩
    go_wp2_with fail
    refine hz1.out.mono ?_; rintro e w' ⟨rfl, rfl⟩
    go_wp2
    go_ret
    exact ⟨rfl, Below.refl _ _⟩
  rw [if_neg c1] at hz1
  have l1 : (0 : Int) ≤ 1048576 - x0.length - x1.length := by omega
  have b1 : x1.length ≤ 1048576 := by omega
  have z0 := size_le b0
  have z1 := size_le b1
  have hB := Below.refl w.heap.size w
  clear hr0 hm0
  clear hr1 hm1
  clear hv0
  clear hv1
  go_enter Try.func7, Try.ntmps7
  go_wp2_with fail
  refine hz0.out.mono ?_; rintro e w' ⟨rfl, rfl⟩
  go_wp2_with fail
  refine hz1.out.mono ?_; rintro e w' ⟨rfl, rfl⟩
  clear hz0 hz1
  go_wp2_with fail
  refine (toTripS_any _ x0 _ (s0.below hB) b0).mono ?_; rintro e w1 ⟨s0_, rfl, ho_s0_, hb⟩
  replace ho_s0_ := own_mono ho_s0_ hB.size
  replace hB := below_tr hb hB
  clear hb
  go_wp2_with fail
  refine (toTripS_any _ x1 _ (s1.below hB) b1).mono ?_; rintro e w2 ⟨s1_, rfl, ho_s1_, hb⟩
  have d_s0__s1_ := dj_new ho_s0_ ho_s1_
  replace ho_s0_ := own_below ho_s0_ hb
  replace ho_s1_ := own_mono ho_s1_ hB.size
  replace hB := below_tr hb hB
  clear hb
  go_wp2_with fail
  refine (spec_any _ _ x0 i0 b0 (own_sl ho_s0_ z0) _ x1 i1 b1 (own_sl ho_s1_ z1)).mono ?_; rintro e w3 ⟨rfl, hb⟩
  replace ho_s0_ := own_below ho_s0_ hb
  replace ho_s1_ := own_below ho_s1_ hb
  replace hB := below_tr hb hB
  clear hb
  clear ho_s0_ d_s0__s1_
  clear ho_s1_
  go_wp2_with fail
  refine (toTripS_any _ x0 _ (s0.below hB) b0).mono ?_; rintro e w4 ⟨x0_, rfl, ho_x0_, hb⟩
  replace ho_x0_ := own_mono ho_x0_ hB.size
  replace hB := below_tr hb hB
  clear hb
  go_wp2_with fail
  refine (toTripS_any _ x1 _ (s1.below hB) b1).mono ?_; rintro e w5 ⟨x1_, rfl, ho_x1_, hb⟩
  have d_x0__x1_ := dj_new ho_x0_ ho_x1_
  replace ho_x0_ := own_below ho_x0_ hb
  replace ho_x1_ := own_mono ho_x1_ hB.size
  replace hB := below_tr hb hB
  clear hb
  go_wp2_with fail
  refine (impl_any _ _ x0 i0 b0 (own_sl ho_x0_ z0) _ x1 i1 b1 (own_sl ho_x1_ z1)).mono ?_; rintro e w6 ⟨rfl, hb⟩
  replace ho_x0_ := own_below ho_x0_ hb
  replace ho_x1_ := own_below ho_x1_ hb
  replace hB := below_tr hb hB
  clear hb
  go_wp2_with fail
  refine (toTripS_any _ x0 _ (s0.below hB) b0).mono ?_; rintro e w7 ⟨c0_, rfl, ho_c0_, hb⟩
  have d_x0__c0_ := dj_new ho_x0_ ho_c0_
  have d_x1__c0_ := dj_new ho_x1_ ho_c0_
  replace ho_x0_ := own_below ho_x0_ hb
  replace ho_x1_ := own_below ho_x1_ hb
  replace ho_c0_ := own_mono ho_c0_ hB.size
  replace hB := below_tr hb hB
  clear hb
  go_wp2_with fail
  refine (eqTripS_any _ _ x0 x0 _ (own_sl ho_x0_ z0) (own_sl ho_c0_ z0)).mono ?_; rintro e w8 ⟨rfl, hb⟩
  replace ho_x0_ := own_below ho_x0_ hb
  replace ho_x1_ := own_below ho_x1_ hb
  replace ho_c0_ := own_below ho_c0_ hb
  replace hB := below_tr hb hB
  clear hb
  clear ho_c0_ d_x0__c0_ d_x1__c0_
  go_wp2_with fail
  refine (toTripS_any _ x1 _ (s1.below hB) b1).mono ?_; rintro e w9 ⟨c1_, rfl, ho_c1_, hb⟩
  have d_x0__c1_ := dj_new ho_x0_ ho_c1_
  have d_x1__c1_ := dj_new ho_x1_ ho_c1_
  replace ho_x0_ := own_below ho_x0_ hb
  replace ho_x1_ := own_below ho_x1_ hb
  replace ho_c1_ := own_mono ho_c1_ hB.size
  replace hB := below_tr hb hB
  clear hb
  go_wp2_with fail
  refine (eqTripS_any _ _ x1 x1 _ (own_sl ho_x1_ z1) (own_sl ho_c1_ z1)).mono ?_; rintro e w10 ⟨rfl, hb⟩
  replace ho_x0_ := own_below ho_x0_ hb
  replace ho_x1_ := own_below ho_x1_ hb
  replace ho_c1_ := own_below ho_c1_ hb
  replace hB := below_tr hb hB
  clear hb
  clear ho_c1_ d_x0__c1_ d_x1__c1_
  go_wp2_with fail
  go_ret
  exact ⟨rfl, hB⟩

theorem own : ownKnob Try.prog.godebug = none := by kernel_rfl
theorem laidOut : laidOutB Try.prog = true := by kernel_rfl

set_option maxRecDepth 100000 in
theorem lifted (os : Os) (started : os.Started) (H : Type) (enc : TypeId × Value → H) :
    ReturnsInHanded {} Try.checked os 7 .any (Rows.fnExactSameTripsSpec.pre6 enc Try.prog Try.f7 Rows.fnExactSameTripsRow.domain false) (Rows.fnExactSameTripsSpec.post enc Try.prog Try.f7 false true false false) := by
  refine returnsInHanded_of_change (C := Try.checked) own started (by as_aux_lemma => kernel_rfl) Try.func7
    (ChangeSpec.witness6 (enc := enc) (C := Try.checked) false ⟨#[], #[.slice none 0 0, .slice none 0 0], []⟩ 8 (by as_aux_lemma => kernel_rfl) (by as_aux_lemma => kernel_rfl) (by as_aux_lemma => kernel_rfl) (by as_aux_lemma => kernel_rfl)) ?_
  intro W base args ds gs before hval0 hW hcnd _
  have hval : ∀ (j : Nat) t v, Try.f7.params[j]? = some t → args[j]? = some v → Value.okWide Try.prog W .any base t v := hval0
  have hW' := hW
  obtain ⟨p, q, hA0, hV, rfl, hfz, hnd⟩ := hW
  have hA : DataW.TrodAll enc Try.prog W 0 (fun _ => true) true Try.f7.params.toList args.toList ds p := hA0
  rw [Try.params7] at hA hval
  obtain ⟨v0, vs0, d0, ds0, p0, q0, hargs, rfl, rfl, h0, r0⟩ := trodAll_cons hA
  obtain ⟨v1, vs1, d1, ds1, p1, q1, rfl, rfl, rfl, h1, r1⟩ := trodAll_cons r0
  obtain ⟨rfl, rfl, rfl⟩ := trodAll_nil r1
  obtain rfl : args = #[v0, v1] := by cases args; simp_all
  obtain ⟨rfl, rfl⟩ := trodVars_none hV
  have k0 := h0
  have lt0 : ∀ x ∈ p0, x.block < W.heap.size := by obtain ⟨m, hm⟩ := k0; exact DataW.trod_lt m _ _ _ hm
  obtain ⟨s0, len0, cap0, rfl⟩ := okWide_slice Try.underlying47 (hval 0 47 v0 rfl rfl)
  obtain ⟨x0, _, i0, w0⟩ := arg_q4 Try.underlying47 Try.underlying125 Try.underlying2 rfl (by as_aux_lemma => kernel_rfl) (by as_aux_lemma => kernel_rfl) h0
  have k1 := h1
  have lt1 : ∀ x ∈ p1, x.block < W.heap.size := by obtain ⟨m, hm⟩ := k1; exact DataW.trod_lt m _ _ _ hm
  obtain ⟨s1, len1, cap1, rfl⟩ := okWide_slice Try.underlying47 (hval 1 47 v1 rfl rfl)
  obtain ⟨x1, _, i1, w1⟩ := arg_q4 Try.underlying47 Try.underlying125 Try.underlying2 rfl (by as_aux_lemma => kernel_rfl) (by as_aux_lemma => kernel_rfl) h1
  clear hA0 hval0
  refine (walk W _ x0 i0 w0 _ x1 i1 w1).mono fun e W' ⟨he, bel⟩ => ?_
  subst he
  exact ⟨_, rfl, _, _, _, [], _, [], hW', trodAll_mk1 (shut_bool Try.underlying4 _), (trodAll_cons_mk (Below.trod laidOut (by as_aux_lemma => kernel_rfl) (of_decide_eq_true (by as_aux_lemma => kernel_rfl)) k0 bel lt0) (trodAll_cons_mk (Below.trod laidOut (by as_aux_lemma => kernel_rfl) (of_decide_eq_true (by as_aux_lemma => kernel_rfl)) k1 bel lt1) (trodAll_mk0))), rfl, bel.frame _, fun h => by cases h⟩

/-- The given statement. -/
theorem proved : Rows.FnExactSameTripsSaid :=
  OpenClaim.holds_of_wide 7 Try.f7 rfl rfl rfl rfl rfl rfl rfl ⟨rfl, rfl, rfl, rfl, rfl⟩ rfl rfl rfl rfl rfl (by kernel_rfl) Try.func7 (by kernel_rfl)
    (of_decide_eq_true (by kernel_rfl)) (by unfold Func.isWrapper; first | (rw [if_pos (by decide +kernel)]; kernel_rfl) | (rw [if_neg (by decide +kernel)]; exact ⟨rfl, rfl⟩))
    (fun os started H enc _ => lifted os started H enc)
#print axioms proved

end Go.Proofs.Ytcfkcahibkpjhaa.lFnExactSameTrips
