/- Whatever times and period are given, the program's TogetherOf and the reference's return the same number and the same bool, and leave the times alone: the law returns true. No condition. -/
import Derived.Test.YtdhmnajkmeclnaaRows
import Derived.Test.YtdhmnajkmeclnaaTogI
import Derived.Test.YtdhmnajkmeclnaaWords
import Derived.Test.YtdhmnajkmeclnaaSlice
import Derived.Test.YtdhmnajkmeclnaaSameF
import Derived.Test.YtdhmnajkmeclnaaOpen2
namespace Go.Proofs.Ytdhmnajkmeclnaa.lFnExactTogetherOf
open Go.ChangeShapes Go.WideShapes Go.ChangeAt Go.RowKit Go.Proofs.Ytdhmnajkmeclnaa Plain
set_option linter.unusedVariables false
set_option linter.unusedSimpArgs false
attribute [local go_sem ↓] Go.wp_at_zero Go.wp_at_succ

theorem num_ok (xs : List Int) (_ : ∀ x ∈ xs, I64 x) (h : xs.length ≤ 1048576) (p : Int) (_ : I64 p) : nrm .f32 (togM xs p).1 = some (togM xs p).1 := by
  cases ht : tableB xs p with
  | false => rw [tog_no ht]; decide
  | true =>
    rw [tog_yes ht]
    obtain ⟨_, _, l1, l2, _⟩ := table_facts ht
    have hs := tog_sums ht
    obtain ⟨_, _, _, _, _, _, _, hp⟩ := pow_at hs.1 hs.2
    exact (tog_num (tog_at hp l1 l2).2.2).2
theorem sameFloat_b (x y : Nat) (m : Option Nat) (w : World) (hx : nrm .f64 x = m) (hy : nrm .f64 y = m) : Calls Try.prog 15 #[.float .f64 x, .float .f64 y] w fun r w' => r = .returned (.bool true) ∧ Below w.heap.size w w' :=
  (sameFloat_any x y m w hx hy).mono fun _ _ h => by obtain ⟨h1, k, rfl⟩ := h; exact ⟨h1, below_drewN (Below.refl _ _) k⟩
theorem impl_any (w : World) (v0 : Value) (xs : List Int) (_ : ∀ x ∈ xs, I64 x) (_ : xs.length ≤ 1048576) (s0 : Sl w 1 v0 xs.length (xs.map vi)) (p : Int) (_ : I64 p) :
    Calls Try.prog 14 #[v0, .int .i64 p] w (TogOut (togM xs p) w) := implTog_any v0 xs p w s0
theorem spec_any (w : World) (v0 : Value) (xs : List Int) (_ : ∀ x ∈ xs, I64 x) (_ : xs.length ≤ 1048576) (s0 : Sl w 1 v0 xs.length (xs.map vi)) (p : Int) (_ : I64 p) :
    Calls Try.prog 13 #[v0, .int .i64 p] w (TogOut (togM xs p) w) := specTog_any v0 xs p w s0

set_option maxHeartbeats 2000000 in
set_option maxRecDepth 100000 in
theorem walk (w : World) (v0 : Value) (x0 : List Int) (i0 : ∀ x ∈ x0, I64 x) (s0 : Sl w 1 v0 x0.length (x0.map vi)) (a1 : Int) (i1 : I64 a1) :
    Calls Try.prog 4 #[v0, .int .i64 a1] w fun e w' => e = .returned (.bool true) ∧ Below w.heap.size w w' := by
  obtain ⟨A0, cap0, hw0, _, hr0⟩ := id s0
  have hv0 := hd hw0; clear hw0
  have hm0 := hr0.2.1
  by_cases b0 : x0.length ≤ 1048576
  rotate_left
  · have e0 := hv0.out; subst e0
    unfold maxLen at hm0
    have hx' : ¬ ((x0.length : Int) ≤ 1048576) := by omega
    go_enter Try.func4, Try.ntmps4
    go_wp2
    go_ret
    exact ⟨rfl, Below.refl _ _⟩
  have hx0 : (x0.length : Int) ≤ 1048576 := by omega
  have z0 := size_le b0
  obtain ⟨rF, hrF, hcF⟩ := conv_num (P := Try.prog) w 32 36 _ Try.underlying32 Try.underlying36 (num_ok x0 i0 b0 a1 i1)
  have hB := Below.refl w.heap.size w
  clear hr0 hm0
  have e0 := hv0.out; subst e0; clear hv0
  go_enter Try.func4, Try.ntmps4
  go_wp2_with fail
  refine (toInt64S_any _ x0 _ (s0.below hB) b0).mono ?_; rintro e w1 ⟨s0_, rfl, ho_s0_, hb⟩
  replace ho_s0_ := own_mono ho_s0_ hB.size
  replace hB := below_tr hb hB
  clear hb
  go_wp2_with fail
  refine (spec_any _ _ x0 i0 b0 (own_sl ho_s0_ z0) a1 i1).mono ?_; rintro e w2 ⟨rfl, hb⟩
  replace ho_s0_ := own_below ho_s0_ hb
  replace hB := below_tr hb hB
  clear hb
  clear ho_s0_
  go_wp2_with fail
  refine (toInt64S_any _ x0 _ (s0.below hB) b0).mono ?_; rintro e w3 ⟨x0_, rfl, ho_x0_, hb⟩
  replace ho_x0_ := own_mono ho_x0_ hB.size
  replace hB := below_tr hb hB
  clear hb
  go_wp2_with fail
  refine (impl_any _ _ x0 i0 b0 (own_sl ho_x0_ z0) a1 i1).mono ?_; rintro e w4 ⟨rfl, hb⟩
  replace ho_x0_ := own_below ho_x0_ hb
  replace hB := below_tr hb hB
  clear hb
  go_wp2_with fail
  refine (sameFloat_b _ _ _ _ hrF hrF).mono ?_; rintro e w5 ⟨rfl, hb⟩
  replace ho_x0_ := own_below ho_x0_ hb
  replace hB := below_tr hb hB
  clear hb
  go_wp2_with fail
  refine (toInt64S_any _ x0 _ (s0.below hB) b0).mono ?_; rintro e w6 ⟨c0_, rfl, ho_c0_, hb⟩
  have d_x0__c0_ := dj_new ho_x0_ ho_c0_
  replace ho_x0_ := own_below ho_x0_ hb
  replace ho_c0_ := own_mono ho_c0_ hB.size
  replace hB := below_tr hb hB
  clear hb
  go_wp2_with fail
  refine (eqInt64S_b _ _ x0 x0 _ (own_sl ho_x0_ z0) (own_sl ho_c0_ z0)).mono ?_; rintro e w7 ⟨rfl, hb⟩
  replace ho_x0_ := own_below ho_x0_ hb
  replace ho_c0_ := own_below ho_c0_ hb
  replace hB := below_tr hb hB
  clear hb
  clear ho_c0_ d_x0__c0_
  go_wp2_with fail
  go_ret
  exact ⟨rfl, hB⟩

theorem own : ownKnob Try.prog.godebug = none := by kernel_rfl
theorem laidOut : laidOutB Try.prog = true := by kernel_rfl

set_option maxRecDepth 100000 in
theorem lifted (os : Os) (started : os.Started) (H : Type) (enc : TypeId × Value → H) :
    ReturnsInHanded {} Try.checked os 4 .any (Rows.fnExactTogetherOfSpec.pre6 enc Try.prog Try.f4 Rows.fnExactTogetherOfRow.domain false) (Rows.fnExactTogetherOfSpec.post enc Try.prog Try.f4 false true false false) := by
  refine returnsInHanded_of_change (C := Try.checked) own started (by as_aux_lemma => kernel_rfl) Try.func4
    (ChangeSpec.witness6 (enc := enc) (C := Try.checked) false ⟨#[], #[.slice none 0 0, .int .i64 0], []⟩ 8 (by as_aux_lemma => kernel_rfl) (by as_aux_lemma => kernel_rfl) (by as_aux_lemma => kernel_rfl) (by as_aux_lemma => kernel_rfl)) ?_
  intro W base args ds gs before hval0 hW hcnd _
  have hval : ∀ (j : Nat) t v, Try.f4.params[j]? = some t → args[j]? = some v → Value.okWide Try.prog W .any base t v := hval0
  have hW' := hW
  obtain ⟨p, q, hA0, hV, rfl, hfz, hnd⟩ := hW
  have hA : DataW.TrodAll enc Try.prog W 0 (fun _ => true) true Try.f4.params.toList args.toList ds p := hA0
  rw [Try.params4] at hA hval
  obtain ⟨v0, vs0, d0, ds0, p0, q0, hargs, rfl, rfl, h0, r0⟩ := trodAll_cons hA
  obtain ⟨v1, vs1, d1, ds1, p1, q1, rfl, rfl, rfl, h1, r1⟩ := trodAll_cons r0
  obtain ⟨rfl, rfl, rfl⟩ := trodAll_nil r1
  obtain rfl : args = #[v0, v1] := by cases args; simp_all
  obtain ⟨rfl, rfl⟩ := trodVars_none hV
  have k0 := h0
  have lt0 : ∀ x ∈ p0, x.block < W.heap.size := by obtain ⟨m, hm⟩ := k0; exact DataW.trod_lt m _ _ _ hm
  obtain ⟨s0, len0, cap0, rfl⟩ := okWide_slice Try.underlying22 (hval 0 22 v0 rfl rfl)
  obtain ⟨x0, _, i0, w0⟩ := arg_ints Try.underlying22 Try.underlying2 (by as_aux_lemma => kernel_rfl) h0
  obtain ⟨a1, rfl, rfl, rfl, w1⟩ := open_int Try.underlying2 (hval 1 2 v1 rfl rfl) h1
  clear hA0 hval0
  refine (walk W _ x0 i0 w0 a1 (i64_of_wf w1)).mono fun e W' ⟨he, bel⟩ => ?_
  subst he
  exact ⟨_, rfl, _, _, _, [], _, [], hW', trodAll_mk1 (shut_bool Try.underlying4 _), (trodAll_cons_mk (Below.trod laidOut (by as_aux_lemma => kernel_rfl) (of_decide_eq_true (by as_aux_lemma => kernel_rfl)) k0 bel lt0) (trodAll_cons_mk (shut_int Try.underlying2 w1) (trodAll_mk0))), rfl, bel.frame _, fun h => by cases h⟩

/-- The given statement. -/
theorem proved : Rows.FnExactTogetherOfSaid :=
  OpenClaim.holds_of_wide 4 Try.f4 rfl rfl rfl rfl rfl rfl rfl ⟨rfl, rfl, rfl, rfl, rfl⟩ rfl rfl rfl rfl rfl (by kernel_rfl) Try.func4 (by kernel_rfl)
    (of_decide_eq_true (by kernel_rfl)) (by unfold Func.isWrapper; first | (rw [if_pos (by decide +kernel)]; kernel_rfl) | (rw [if_neg (by decide +kernel)]; exact ⟨rfl, rfl⟩))
    (fun os started H enc _ => lifted os started H enc)
#print axioms proved

end Go.Proofs.Ytdhmnajkmeclnaa.lFnExactTogetherOf
