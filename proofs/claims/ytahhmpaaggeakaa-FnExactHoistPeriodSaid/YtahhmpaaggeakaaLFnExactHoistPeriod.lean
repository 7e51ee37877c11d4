/- Whatever soaks, moves and longest period are given, the program's HoistPeriod and the reference's return the same number and bool, and the law's own copies are left as they were: the law returns true. No condition. -/
import Derived.Test.YtahhmpaaggeakaaRows
import Derived.Test.YtahhmpaaggeakaaHoistS
import Derived.Test.YtahhmpaaggeakaaSlice
import Derived.Test.YtahhmpaaggeakaaOpen
namespace Go.Proofs.Ytahhmpaaggeakaa.lFnExactHoistPeriod
open Go.ChangeShapes Go.WideShapes Go.ChangeAt Go.RowKit Go.Proofs.Ytahhmpaaggeakaa Plain
set_option linter.unusedVariables false
set_option linter.unusedSimpArgs false
attribute [local go_sem ↓] Go.wp_at_zero Go.wp_at_succ

theorem spec_any (w : World) (v : Value) (so : List Int) (_ : ∀ x ∈ so, I64 x) (_ : so.length ≤ 1048576) (s : Sl w 1 v so.length (so.map vi)) (u : Value) (mv : List Int) (_ : ∀ x ∈ mv, I64 x) (_ : mv.length ≤ 1048576) (t : Sl w 1 u mv.length (mv.map vi)) (most : Int) (_ : I64 most) :
    Calls Try.prog 21 #[v, u, .int .i64 most] w fun e w' => e = .returned (.tuple #[.int .i64 (MH so mv most).1, .bool (MH so mv most).2]) ∧ Below w.heap.size w w' := specHoistPeriod_any w v so s u mv t most
theorem impl_any (w : World) (v : Value) (so : List Int) (_ : ∀ x ∈ so, I64 x) (_ : so.length ≤ 1048576) (s : Sl w 1 v so.length (so.map vi)) (u : Value) (mv : List Int) (_ : ∀ x ∈ mv, I64 x) (_ : mv.length ≤ 1048576) (t : Sl w 1 u mv.length (mv.map vi)) (most : Int) (_ : I64 most) :
    Calls Try.prog 22 #[v, u, .int .i64 most] w fun e w' => e = .returned (.tuple #[.int .i64 (MH so mv most).1, .bool (MH so mv most).2]) ∧ Below w.heap.size w w' := HoistPeriod_any w v so s u mv t most

set_option maxHeartbeats 2000000 in
set_option maxRecDepth 100000 in
theorem walk (w : World) (v0 : Value) (x0 : List Int) (i0 : ∀ x ∈ x0, I64 x) (s0 : Sl w 1 v0 x0.length (x0.map vi)) (v1 : Value) (x1 : List Int) (i1 : ∀ x ∈ x1, I64 x) (s1 : Sl w 1 v1 x1.length (x1.map vi)) (a2 : Int) (i2 : I64 a2) :
    Calls Try.prog 4 #[v0, v1, .int .i64 a2] w fun e w' => e = .returned (.bool true) ∧ Below w.heap.size w w' := by
  obtain ⟨A0, cap0, hw0, _, hr0⟩ := id s0
  have hv0 := hd hw0; clear hw0
  obtain ⟨A1, cap1, hw1, _, hr1⟩ := id s1
  have hv1 := hd hw1; clear hw1
  have hm0 := hr0.2.1
  have hm1 := hr1.2.1
  by_cases b0 : x0.length ≤ 1048576
  rotate_left
  · have e0 := hv0.out; subst e0
    unfold maxLen at hm0
    have hx' : ¬ ((x0.length : Int) ≤ 1048576) := by omega
    go_enter Try.func4, Try.ntmps4
    go_wp2
    go_ret
    exact ⟨rfl, Below.refl _ _⟩
  by_cases b1 : x1.length ≤ 1048576
  rotate_left
  · have e1 := hv1.out; subst e1
    have e0 := hv0.out; subst e0
    unfold maxLen at hm1
    have hx' : ¬ ((x1.length : Int) ≤ 1048576) := by omega
    have hx0 : (x0.length : Int) ≤ 1048576 := by omega
    go_enter Try.func4, Try.ntmps4
    go_wp2
    go_ret
    exact ⟨rfl, Below.refl _ _⟩
  have hx0 : (x0.length : Int) ≤ 1048576 := by omega
  have hx1 : (x1.length : Int) ≤ 1048576 := by omega
  have z0 := size_le b0
  have z1 := size_le b1
  have hB := Below.refl w.heap.size w
  clear hr0 hm0
  clear hr1 hm1
  have e0 := hv0.out; subst e0; clear hv0
  have e1 := hv1.out; subst e1; clear hv1
  go_enter Try.func4, Try.ntmps4
  go_wp2_with fail
  refine (toInt64S_any _ x0 _ (s0.below hB) b0).mono ?_; rintro e w1 ⟨s0_, rfl, ho_s0_, hb⟩
  replace ho_s0_ := own_mono ho_s0_ hB.size
  replace hB := below_tr hb hB
  clear hb
  go_wp2_with fail
  refine (toInt64S_any _ x1 _ (s1.below hB) b1).mono ?_; rintro e w2 ⟨s1_, rfl, ho_s1_, hb⟩
  have d_s0__s1_ := dj_new ho_s0_ ho_s1_
  replace ho_s0_ := own_below ho_s0_ hb
  replace ho_s1_ := own_mono ho_s1_ hB.size
  replace hB := below_tr hb hB
  clear hb
  go_wp2_with fail
  refine (spec_any _ _ x0 i0 b0 (own_sl ho_s0_ z0) _ x1 i1 b1 (own_sl ho_s1_ z1) a2 i2).mono ?_; rintro e w3 ⟨rfl, hb⟩
  replace ho_s0_ := own_below ho_s0_ hb
  replace ho_s1_ := own_below ho_s1_ hb
  replace hB := below_tr hb hB
  clear hb
  clear ho_s0_ d_s0__s1_
  clear ho_s1_
  go_wp2_with fail
  refine (toInt64S_any _ x0 _ (s0.below hB) b0).mono ?_; rintro e w4 ⟨x0_, rfl, ho_x0_, hb⟩
  replace ho_x0_ := own_mono ho_x0_ hB.size
  replace hB := below_tr hb hB
  clear hb
  go_wp2_with fail
  refine (toInt64S_any _ x1 _ (s1.below hB) b1).mono ?_; rintro e w5 ⟨x1_, rfl, ho_x1_, hb⟩
  have d_x0__x1_ := dj_new ho_x0_ ho_x1_
  replace ho_x0_ := own_below ho_x0_ hb
  replace ho_x1_ := own_mono ho_x1_ hB.size
  replace hB := below_tr hb hB
  clear hb
  go_wp2_with fail
  refine (impl_any _ _ x0 i0 b0 (own_sl ho_x0_ z0) _ x1 i1 b1 (own_sl ho_x1_ z1) a2 i2).mono ?_; rintro e w6 ⟨rfl, hb⟩
  replace ho_x0_ := own_below ho_x0_ hb
  replace ho_x1_ := own_below ho_x1_ hb
  replace hB := below_tr hb hB
  clear hb
  go_wp2_with fail
  refine (toInt64S_any _ x0 _ (s0.below hB) b0).mono ?_; rintro e w7 ⟨c0_, rfl, ho_c0_, hb⟩
  have d_x0__c0_ := dj_new ho_x0_ ho_c0_
  have d_x1__c0_ := dj_new ho_x1_ ho_c0_
  replace ho_x0_ := own_below ho_x0_ hb
  replace ho_x1_ := own_below ho_x1_ hb
  replace ho_c0_ := own_mono ho_c0_ hB.size
  replace hB := below_tr hb hB
  clear hb
  go_wp2_with fail
  refine (eqInt64S_b _ _ x0 x0 _ (own_sl ho_x0_ z0) (own_sl ho_c0_ z0)).mono ?_; rintro e w8 ⟨rfl, hb⟩
  replace ho_x0_ := own_below ho_x0_ hb
  replace ho_x1_ := own_below ho_x1_ hb
  replace ho_c0_ := own_below ho_c0_ hb
  replace hB := below_tr hb hB
  clear hb
  clear ho_c0_ d_x0__c0_ d_x1__c0_
  go_wp2_with fail
  refine (toInt64S_any _ x1 _ (s1.below hB) b1).mono ?_; rintro e w9 ⟨c1_, rfl, ho_c1_, hb⟩
  have d_x0__c1_ := dj_new ho_x0_ ho_c1_
  have d_x1__c1_ := dj_new ho_x1_ ho_c1_
  replace ho_x0_ := own_below ho_x0_ hb
  replace ho_x1_ := own_below ho_x1_ hb
  replace ho_c1_ := own_mono ho_c1_ hB.size
  replace hB := below_tr hb hB
  clear hb
  go_wp2_with fail
  refine (eqInt64S_b _ _ x1 x1 _ (own_sl ho_x1_ z1) (own_sl ho_c1_ z1)).mono ?_; rintro e w10 ⟨rfl, hb⟩
  replace ho_x0_ := own_below ho_x0_ hb
  replace ho_x1_ := own_below ho_x1_ hb
  replace ho_c1_ := own_below ho_c1_ hb
  replace hB := below_tr hb hB
  clear hb
  clear ho_c1_ d_x0__c1_ d_x1__c1_
  go_wp2_with fail
  go_ret
  exact ⟨rfl, hB⟩

theorem own : ownKnob Try.prog.godebug = none := by kernel_rfl
theorem laidOut : laidOutB Try.prog = true := by kernel_rfl

set_option maxRecDepth 100000 in
theorem lifted (os : Os) (started : os.Started) (H : Type) (enc : TypeId × Value → H) :
    ReturnsInHanded {} Try.checked os 4 .any (Rows.fnExactHoistPeriodSpec.pre6 enc Try.prog Try.f4 Rows.fnExactHoistPeriodRow.domain false) (Rows.fnExactHoistPeriodSpec.post enc Try.prog Try.f4 false true false false) := by
  refine returnsInHanded_of_change (C := Try.checked) own started (by as_aux_lemma => kernel_rfl) Try.func4
    (ChangeSpec.witness6 (enc := enc) (C := Try.checked) false ⟨#[], #[.slice none 0 0, .slice none 0 0, .int .i64 0], []⟩ 8 (by as_aux_lemma => kernel_rfl) (by as_aux_lemma => kernel_rfl) (by as_aux_lemma => kernel_rfl) (by as_aux_lemma => kernel_rfl)) ?_
  intro W base args ds gs before hval0 hW hcnd _
  have hval : ∀ (j : Nat) t v, Try.f4.params[j]? = some t → args[j]? = some v → Value.okWide Try.prog W .any base t v := hval0
  have hW' := hW
  obtain ⟨p, q, hA0, hV, rfl, hfz, hnd⟩ := hW
  have hA : DataW.TrodAll enc Try.prog W 0 (fun _ => true) true Try.f4.params.toList args.toList ds p := hA0
  rw [Try.params4] at hA hval
  obtain ⟨v0, vs0, d0, ds0, p0, q0, hargs, rfl, rfl, h0, r0⟩ := trodAll_cons hA
  obtain ⟨v1, vs1, d1, ds1, p1, q1, rfl, rfl, rfl, h1, r1⟩ := trodAll_cons r0
  obtain ⟨v2, vs2, d2, ds2, p2, q2, rfl, rfl, rfl, h2, r2⟩ := trodAll_cons r1
  obtain ⟨rfl, rfl, rfl⟩ := trodAll_nil r2
  obtain rfl : args = #[v0, v1, v2] := by cases args; simp_all
  obtain ⟨rfl, rfl⟩ := trodVars_none hV
  have k0 := h0
  have lt0 : ∀ x ∈ p0, x.block < W.heap.size := by obtain ⟨m, hm⟩ := k0; exact DataW.trod_lt m _ _ _ hm
  obtain ⟨s0, len0, cap0, rfl⟩ := okWide_slice Try.underlying22 (hval 0 22 v0 rfl rfl)
  obtain ⟨x0, _, i0, w0⟩ := arg_ints Try.underlying22 Try.underlying2 (by as_aux_lemma => kernel_rfl) h0
  have k1 := h1
  have lt1 : ∀ x ∈ p1, x.block < W.heap.size := by obtain ⟨m, hm⟩ := k1; exact DataW.trod_lt m _ _ _ hm
  obtain ⟨s1, len1, cap1, rfl⟩ := okWide_slice Try.underlying22 (hval 1 22 v1 rfl rfl)
  obtain ⟨x1, _, i1, w1⟩ := arg_ints Try.underlying22 Try.underlying2 (by as_aux_lemma => kernel_rfl) h1
  obtain ⟨a2, rfl, rfl, rfl, w2⟩ := open_int Try.underlying2 (hval 2 2 v2 rfl rfl) h2
  clear hA0 hval0
  refine (walk W _ x0 i0 w0 _ x1 i1 w1 a2 (i64_of_wf w2)).mono fun e W' ⟨he, bel⟩ => ?_
  subst he
  exact ⟨_, rfl, _, _, _, [], _, [], hW', trodAll_mk1 (shut_bool Try.underlying4 _), (trodAll_cons_mk (Below.trod laidOut (by as_aux_lemma => kernel_rfl) (of_decide_eq_true (by as_aux_lemma => kernel_rfl)) k0 bel lt0) (trodAll_cons_mk (Below.trod laidOut (by as_aux_lemma => kernel_rfl) (of_decide_eq_true (by as_aux_lemma => kernel_rfl)) k1 bel lt1) (trodAll_cons_mk (shut_int Try.underlying2 w2) (trodAll_mk0)))), rfl, bel.frame _, fun h => by cases h⟩

/-- The given statement. -/
theorem proved : Rows.FnExactHoistPeriodSaid :=
  OpenClaim.holds_of_wide 4 Try.f4 rfl rfl rfl rfl rfl rfl rfl ⟨rfl, rfl, rfl, rfl, rfl⟩ rfl rfl rfl rfl rfl (by kernel_rfl) Try.func4 (by kernel_rfl)
    (of_decide_eq_true (by kernel_rfl)) (by unfold Func.isWrapper; first | (rw [if_pos (by decide +kernel)]; kernel_rfl) | (rw [if_neg (by decide +kernel)]; exact ⟨rfl, rfl⟩))
    (fun os started H enc _ => lifted os started H enc)
#print axioms proved

end Go.Proofs.Ytahhmpaaggeakaa.lFnExactHoistPeriod
