/- Whatever events, rules and delays are given, the program's SpreadDelays and the reference's return the same list and bool, leave the arguments alone and share no memory: the law returns true. No condition. -/
import Derived.Test.YtahhmpaaggeakaaRows
import Derived.Test.YtahhmpaaggeakaaDelays
import Derived.Test.YtahhmpaaggeakaaQSlice
import Derived.Test.YtahhmpaaggeakaaOpen
namespace Go.Proofs.Ytahhmpaaggeakaa.lFnExactSpreadDelays
open Go.ChangeShapes Go.WideShapes Go.ChangeAt Go.RowKit Go.Proofs.Ytahhmpaaggeakaa Plain
set_option linter.unusedVariables false
set_option linter.unusedSimpArgs false
attribute [local go_sem ↓] Go.wp_at_zero Go.wp_at_succ

def M (ev : Int) (l : List Q4) (late : List Int) : List Int × Bool := MD ev l late
theorem len_ok (ev : Int) (_ : I64 ev) (l : List Q4) (_ : ∀ q ∈ l, q.I64) (_ : l.length ≤ 1048576) (late : List Int) (_ : ∀ x ∈ late, I64 x) (h : late.length ≤ 1048576) : (M ev l late).1.length ≤ 1048576 :=
  Nat.le_trans (MD_len ev l late) h
theorem spec_any (w : World) (ev : Int) (e : I64 ev) (v : Value) (l : List Q4) (i : ∀ y ∈ l, y.I64) (b : l.length ≤ 1048576) (s : Sl w 4 v l.length (q4s l)) (u : Value) (late : List Int) (j : ∀ y ∈ late, I64 y) (c : late.length ≤ 1048576) (t : Sl w 1 u late.length (late.map vi)) :
    Calls Try.prog 45 #[.int .i64 ev, v, u] w (OutL 2 1 (M ev l late).1.length ((M ev l late).1.map vi) (fun z => .tuple #[z, .bool (M ev l late).2]) w) :=
  specSpreadDelays_any w ev e v l i b s u late j c t
theorem impl_any (w : World) (ev : Int) (e : I64 ev) (v : Value) (l : List Q4) (i : ∀ y ∈ l, y.I64) (b : l.length ≤ 1048576) (s : Sl w 4 v l.length (q4s l)) (u : Value) (late : List Int) (j : ∀ y ∈ late, I64 y) (c : late.length ≤ 1048576) (t : Sl w 1 u late.length (late.map vi)) :
    Calls Try.prog 46 #[.int .i64 ev, v, u] w (OutL 2 1 (M ev l late).1.length ((M ev l late).1.map vi) (fun z => .tuple #[z, .bool (M ev l late).2]) w) :=
  SpreadDelays_any w ev e v l i b s u late j c t

set_option maxHeartbeats 2000000 in
set_option maxRecDepth 100000 in
theorem walk (w : World) (a0 : Int) (i0 : I64 a0) (v1 : Value) (x1 : List Q4) (i1 : ∀ x ∈ x1, x.I64) (s1 : Sl w 4 v1 x1.length (q4s x1)) (v2 : Value) (x2 : List Int) (i2 : ∀ x ∈ x2, I64 x) (s2 : Sl w 1 v2 x2.length (x2.map vi)) :
    Calls Try.prog 9 #[.int .i64 a0, v1, v2] w fun e w' => e = .returned (.bool true) ∧ Below w.heap.size w w' := by
  obtain ⟨A1, cap1, hw1, _, hr1⟩ := id s1
  have hv1 := hd hw1; clear hw1
  obtain ⟨A2, cap2, hw2, _, hr2⟩ := id s2
  have hv2 := hd hw2; clear hw2
  have hm1 := hr1.2.1
  have hm2 := hr2.2.1
  by_cases b2 : x2.length ≤ 1048576
  rotate_left
  · have e2 := hv2.out; subst e2
    unfold maxLen at hm2
    have hx' : ¬ ((x2.length : Int) ≤ 1048576) := by omega
    go_enter Try.func9, Try.ntmps9
    go_wp2
    go_ret
    exact ⟨rfl, Below.refl _ _⟩
  have hz1 := hd (szRuleS_any v1 x1.length (1048576) w ⟨A1, cap1, hv1.out, hm1⟩ (by omega) (by omega))
  by_cases c1 : (1048576 : Int) < x1.length
  · rw [if_pos c1] at hz1
    have e2 := hv2.out; subst e2
    have hx2 : (x2.length : Int) ≤ 1048576 := by omega
    go_enter Try.func9, Try.ntmps9
    go_wp2_with fail
    refine hz1.out.mono ?_; rintro e w' ⟨rfl, rfl⟩
    go_wp2
    go_ret
    exact ⟨rfl, Below.refl _ _⟩
  rw [if_neg c1] at hz1
  have l1 : (0 : Int) ≤ 1048576 - x1.length := by omega
  have b1 : x1.length ≤ 1048576 := by omega
  have hx2 : (x2.length : Int) ≤ 1048576 := by omega
  have z1 := size_le b1
  have z2 := size_le b2
  have bg := len_ok a0 i0 x1 i1 b1 x2 i2 b2
  have zg := size_le bg
  have hB := Below.refl w.heap.size w
  clear hr1 hm1
  clear hr2 hm2
  clear hv1
  have e2 := hv2.out; subst e2; clear hv2
  go_enter Try.func9, Try.ntmps9
  go_wp2_with fail
  refine hz1.out.mono ?_; rintro e w' ⟨rfl, rfl⟩
  clear hz1
  go_wp2_with fail
  refine (toRuleS_any _ x1 _ (s1.below hB) b1).mono ?_; rintro e w1 ⟨s1_, rfl, ho_s1_, hb⟩
  replace ho_s1_ := own_mono ho_s1_ hB.size
  replace hB := below_tr hb hB
  clear hb
  go_wp2_with fail
  refine (toInt64S_any _ x2 _ (s2.below hB) b2).mono ?_; rintro e w2 ⟨s2_, rfl, ho_s2_, hb⟩
  have d_s1__s2_ := dj_new ho_s1_ ho_s2_
  replace ho_s1_ := own_below ho_s1_ hb
  replace ho_s2_ := own_mono ho_s2_ hB.size
  replace hB := below_tr hb hB
  clear hb
  go_wp2_with fail
  refine (spec_any _ a0 i0 _ x1 i1 b1 (own_sl ho_s1_ z1) _ x2 i2 b2 (own_sl ho_s2_ z2)).mono ?_; rintro e w3 ⟨w0, rfl, ho_w0, hb⟩
  have d_s1__w0 := dj_new ho_s1_ ho_w0
  have d_s2__w0 := dj_new ho_s2_ ho_w0
  replace ho_s1_ := own_below ho_s1_ hb
  replace ho_s2_ := own_below ho_s2_ hb
  replace ho_w0 := own_mono ho_w0 hB.size
  replace hB := below_tr hb hB
  clear hb
  clear ho_s1_ d_s1__s2_ d_s1__w0
  clear ho_s2_ d_s2__w0
  go_wp2_with fail
  refine (toRuleS_any _ x1 _ (s1.below hB) b1).mono ?_; rintro e w4 ⟨x1_, rfl, ho_x1_, hb⟩
  have d_w0_x1_ := dj_new ho_w0 ho_x1_
  replace ho_w0 := own_below ho_w0 hb
  replace ho_x1_ := own_mono ho_x1_ hB.size
  replace hB := below_tr hb hB
  clear hb
  go_wp2_with fail
  refine (toInt64S_any _ x2 _ (s2.below hB) b2).mono ?_; rintro e w5 ⟨x2_, rfl, ho_x2_, hb⟩
  have d_w0_x2_ := dj_new ho_w0 ho_x2_
  have d_x1__x2_ := dj_new ho_x1_ ho_x2_
  replace ho_w0 := own_below ho_w0 hb
  replace ho_x1_ := own_below ho_x1_ hb
  replace ho_x2_ := own_mono ho_x2_ hB.size
  replace hB := below_tr hb hB
  clear hb
  go_wp2_with fail
  refine (impl_any _ a0 i0 _ x1 i1 b1 (own_sl ho_x1_ z1) _ x2 i2 b2 (own_sl ho_x2_ z2)).mono ?_; rintro e w6 ⟨g0, rfl, ho_g0, hb⟩
  have d_w0_g0 := dj_new ho_w0 ho_g0
  have d_x1__g0 := dj_new ho_x1_ ho_g0
  have d_x2__g0 := dj_new ho_x2_ ho_g0
  replace ho_w0 := own_below ho_w0 hb
  replace ho_x1_ := own_below ho_x1_ hb
  replace ho_x2_ := own_below ho_x2_ hb
  replace ho_g0 := own_mono ho_g0 hB.size
  replace hB := below_tr hb hB
  clear hb
  go_wp2_with fail
  refine (eqInt64S_b _ _ _ _ _ (own_sl ho_g0 zg) (own_sl ho_w0 zg)).mono ?_; rintro e w7 ⟨rfl, hb⟩
  replace ho_w0 := own_below ho_w0 hb
  replace ho_x1_ := own_below ho_x1_ hb
  replace ho_x2_ := own_below ho_x2_ hb
  replace ho_g0 := own_below ho_g0 hb
  replace hB := below_tr hb hB
  clear hb
  go_wp2_with fail
  refine (toRuleS_any _ x1 _ (s1.below hB) b1).mono ?_; rintro e w8 ⟨c1_, rfl, ho_c1_, hb⟩
  have d_w0_c1_ := dj_new ho_w0 ho_c1_
  have d_x1__c1_ := dj_new ho_x1_ ho_c1_
  have d_x2__c1_ := dj_new ho_x2_ ho_c1_
  have d_g0_c1_ := dj_new ho_g0 ho_c1_
  replace ho_w0 := own_below ho_w0 hb
  replace ho_x1_ := own_below ho_x1_ hb
  replace ho_x2_ := own_below ho_x2_ hb
  replace ho_g0 := own_below ho_g0 hb
  replace ho_c1_ := own_mono ho_c1_ hB.size
  replace hB := below_tr hb hB
  clear hb
  go_wp2_with fail
  refine (eqRuleS_any _ _ x1 x1 _ (own_sl ho_x1_ z1) (own_sl ho_c1_ z1)).mono ?_; rintro e w9 ⟨rfl, hb⟩
  replace ho_w0 := own_below ho_w0 hb
  replace ho_x1_ := own_below ho_x1_ hb
  replace ho_x2_ := own_below ho_x2_ hb
  replace ho_g0 := own_below ho_g0 hb
  replace ho_c1_ := own_below ho_c1_ hb
  replace hB := below_tr hb hB
  clear hb
  clear ho_c1_ d_w0_c1_ d_x1__c1_ d_x2__c1_ d_g0_c1_
  go_wp2_with fail
  refine (toInt64S_any _ x2 _ (s2.below hB) b2).mono ?_; rintro e w10 ⟨c2_, rfl, ho_c2_, hb⟩
  have d_w0_c2_ := dj_new ho_w0 ho_c2_
  have d_x1__c2_ := dj_new ho_x1_ ho_c2_
  have d_x2__c2_ := dj_new ho_x2_ ho_c2_
  have d_g0_c2_ := dj_new ho_g0 ho_c2_
  replace ho_w0 := own_below ho_w0 hb
  replace ho_x1_ := own_below ho_x1_ hb
  replace ho_x2_ := own_below ho_x2_ hb
  replace ho_g0 := own_below ho_g0 hb
  replace ho_c2_ := own_mono ho_c2_ hB.size
  replace hB := below_tr hb hB
  clear hb
  go_wp2_with fail
  refine (eqInt64S_b _ _ x2 x2 _ (own_sl ho_x2_ z2) (own_sl ho_c2_ z2)).mono ?_; rintro e w11 ⟨rfl, hb⟩
  replace ho_w0 := own_below ho_w0 hb
  replace ho_x1_ := own_below ho_x1_ hb
  replace ho_x2_ := own_below ho_x2_ hb
  replace ho_g0 := own_below ho_g0 hb
  replace ho_c2_ := own_below ho_c2_ hb
  replace hB := below_tr hb hB
  clear hb
  clear ho_c2_ d_w0_c2_ d_x1__c2_ d_x2__c2_ d_g0_c2_
  go_wp2_with fail
  have hrow := own_row ho_x1_ (Nat.le_refl _)
  refine (markRuleS_any _ _ _ _ (1) _ ho_x1_ b1 (by omega) (by omega)).mono ?_; rintro e w12 ⟨rfl, ho', hg⟩
  replace ho_w0 := own_kept ho_w0 hg d_w0_x1_
  replace ho_x2_ := own_kept ho_x2_ hg (dj_symm d_x1__x2_)
  replace ho_g0 := own_kept ho_g0 hg (dj_symm d_x1__g0)
  replace ho_x1_ := ho'
  replace hB := below_row hg hB hrow
  clear hg hrow ho'
  go_wp2_with fail
  have hrow := own_row ho_x2_ (Nat.le_refl _)
  refine (markInt64S_any _ _ _ _ (1 + (x1.length : Int) * 4) _ ho_x2_ b2 (by omega) (by omega)).mono ?_; rintro e w13 ⟨rfl, ho', hg⟩
  replace ho_w0 := own_kept ho_w0 hg d_w0_x2_
  replace ho_x1_ := own_kept ho_x1_ hg d_x1__x2_
  replace ho_g0 := own_kept ho_g0 hg (dj_symm d_x2__g0)
  replace ho_x2_ := ho'
  replace hB := below_row hg hB hrow
  clear hg hrow ho'
  clear ho_x1_ d_w0_x1_ d_x1__x2_ d_x1__g0
  clear ho_x2_ d_w0_x2_ d_x2__g0
  go_wp2_with fail
  refine (eqInt64S_b _ _ _ _ _ (own_sl ho_g0 zg) (own_sl ho_w0 zg)).mono ?_; rintro e w14 ⟨rfl, hb⟩
  replace ho_w0 := own_below ho_w0 hb
  replace ho_g0 := own_below ho_g0 hb
  replace hB := below_tr hb hB
  clear hb
  go_wp2_with fail
  have hrow := own_row ho_g0 (Nat.le_refl _)
  refine (markInt64S_any _ _ _ _ 1 _ ho_g0 bg (by omega) (by omega)).mono ?_; rintro e w15 ⟨rfl, ho', hg⟩
  replace ho_w0 := own_kept ho_w0 hg d_w0_g0
  replace ho_g0 := ho'
  replace hB := below_row hg hB hrow
  clear hg hrow ho'
  go_wp2_with fail
  refine (heldInt64S_b _ _ 1 _ (own_sl ho_g0 zg) bg (by omega) (by omega)).mono ?_; rintro e w16 ⟨rfl, hb⟩
  replace ho_w0 := own_below ho_w0 hb
  replace ho_g0 := own_below ho_g0 hb
  replace hB := below_tr hb hB
  clear hb
  go_wp2_with fail
  refine (toRuleS_any _ x1 _ (s1.below hB) b1).mono ?_; rintro e w17 ⟨t1_, rfl, ho_t1_, hb⟩
  have d_w0_t1_ := dj_new ho_w0 ho_t1_
  have d_g0_t1_ := dj_new ho_g0 ho_t1_
  replace ho_w0 := own_below ho_w0 hb
  replace ho_g0 := own_below ho_g0 hb
  replace ho_t1_ := own_mono ho_t1_ hB.size
  replace hB := below_tr hb hB
  clear hb
  go_wp2_with fail
  refine (toInt64S_any _ x2 _ (s2.below hB) b2).mono ?_; rintro e w18 ⟨t2_, rfl, ho_t2_, hb⟩
  have d_w0_t2_ := dj_new ho_w0 ho_t2_
  have d_g0_t2_ := dj_new ho_g0 ho_t2_
  have d_t1__t2_ := dj_new ho_t1_ ho_t2_
  replace ho_w0 := own_below ho_w0 hb
  replace ho_g0 := own_below ho_g0 hb
  replace ho_t1_ := own_below ho_t1_ hb
  replace ho_t2_ := own_mono ho_t2_ hB.size
  replace hB := below_tr hb hB
  clear hb
  go_wp2_with fail
  refine (impl_any _ a0 i0 _ x1 i1 b1 (own_sl ho_t1_ z1) _ x2 i2 b2 (own_sl ho_t2_ z2)).mono ?_; rintro e w19 ⟨h0, rfl, ho_h0, hb⟩
  have d_w0_h0 := dj_new ho_w0 ho_h0
  have d_g0_h0 := dj_new ho_g0 ho_h0
  have d_t1__h0 := dj_new ho_t1_ ho_h0
  have d_t2__h0 := dj_new ho_t2_ ho_h0
  replace ho_w0 := own_below ho_w0 hb
  replace ho_g0 := own_below ho_g0 hb
  replace ho_t1_ := own_below ho_t1_ hb
  replace ho_t2_ := own_below ho_t2_ hb
  replace ho_h0 := own_mono ho_h0 hB.size
  replace hB := below_tr hb hB
  clear hb
  go_wp2_with fail
  refine (eqInt64S_b _ _ _ _ _ (own_sl ho_h0 zg) (own_sl ho_w0 zg)).mono ?_; rintro e w20 ⟨rfl, hb⟩
  replace ho_w0 := own_below ho_w0 hb
  replace ho_g0 := own_below ho_g0 hb
  replace ho_t1_ := own_below ho_t1_ hb
  replace ho_t2_ := own_below ho_t2_ hb
  replace ho_h0 := own_below ho_h0 hb
  replace hB := below_tr hb hB
  clear hb
  go_wp2_with fail
  refine (heldInt64S_b _ _ 1 _ (own_sl ho_g0 zg) bg (by omega) (by omega)).mono ?_; rintro e w21 ⟨rfl, hb⟩
  replace ho_w0 := own_below ho_w0 hb
  replace ho_g0 := own_below ho_g0 hb
  replace ho_t1_ := own_below ho_t1_ hb
  replace ho_t2_ := own_below ho_t2_ hb
  replace ho_h0 := own_below ho_h0 hb
  replace hB := below_tr hb hB
  clear hb
  go_wp2_with fail
  go_ret
  exact ⟨rfl, hB⟩

theorem own : ownKnob Try.prog.godebug = none := by kernel_rfl
theorem laidOut : laidOutB Try.prog = true := by kernel_rfl

set_option maxRecDepth 100000 in
theorem lifted (os : Os) (started : os.Started) (H : Type) (enc : TypeId × Value → H) :
    ReturnsInHanded {} Try.checked os 9 .any (Rows.fnExactSpreadDelaysSpec.pre6 enc Try.prog Try.f9 Rows.fnExactSpreadDelaysRow.domain false) (Rows.fnExactSpreadDelaysSpec.post enc Try.prog Try.f9 false true false false) := by
  refine returnsInHanded_of_change (C := Try.checked) own started (by as_aux_lemma => kernel_rfl) Try.func9
    (ChangeSpec.witness6 (enc := enc) (C := Try.checked) false ⟨#[], #[.int .i64 0, .slice none 0 0, .slice none 0 0], []⟩ 8 (by as_aux_lemma => kernel_rfl) (by as_aux_lemma => kernel_rfl) (by as_aux_lemma => kernel_rfl) (by as_aux_lemma => kernel_rfl)) ?_
  intro W base args ds gs before hval0 hW hcnd _
  have hval : ∀ (j : Nat) t v, Try.f9.params[j]? = some t → args[j]? = some v → Value.okWide Try.prog W .any base t v := hval0
  have hW' := hW
  obtain ⟨p, q, hA0, hV, rfl, hfz, hnd⟩ := hW
  have hA : DataW.TrodAll enc Try.prog W 0 (fun _ => true) true Try.f9.params.toList args.toList ds p := hA0
  rw [Try.params9] at hA hval
  obtain ⟨v0, vs0, d0, ds0, p0, q0, hargs, rfl, rfl, h0, r0⟩ := trodAll_cons hA
  obtain ⟨v1, vs1, d1, ds1, p1, q1, rfl, rfl, rfl, h1, r1⟩ := trodAll_cons r0
  obtain ⟨v2, vs2, d2, ds2, p2, q2, rfl, rfl, rfl, h2, r2⟩ := trodAll_cons r1
  obtain ⟨rfl, rfl, rfl⟩ := trodAll_nil r2
  obtain rfl : args = #[v0, v1, v2] := by cases args; simp_all
  obtain ⟨rfl, rfl⟩ := trodVars_none hV
  obtain ⟨a0, rfl, rfl, rfl, w0⟩ := open_int Try.underlying2 (hval 0 2 v0 rfl rfl) h0
  have k1 := h1
  have lt1 : ∀ x ∈ p1, x.block < W.heap.size := by obtain ⟨m, hm⟩ := k1; exact DataW.trod_lt m _ _ _ hm
  obtain ⟨s1, len1, cap1, rfl⟩ := okWide_slice Try.underlying41 (hval 1 41 v1 rfl rfl)
  obtain ⟨x1, _, i1, w1⟩ := arg_q4 Try.underlying41 Try.underlying102 Try.underlying2 rfl (by as_aux_lemma => kernel_rfl) (by as_aux_lemma => kernel_rfl) h1
  have k2 := h2
  have lt2 : ∀ x ∈ p2, x.block < W.heap.size := by obtain ⟨m, hm⟩ := k2; exact DataW.trod_lt m _ _ _ hm
  obtain ⟨s2, len2, cap2, rfl⟩ := okWide_slice Try.underlying22 (hval 2 22 v2 rfl rfl)
  obtain ⟨x2, _, i2, w2⟩ := arg_ints Try.underlying22 Try.underlying2 (by as_aux_lemma => kernel_rfl) h2
  clear hA0 hval0
  refine (walk W a0 (i64_of_wf w0) _ x1 i1 w1 _ x2 i2 w2).mono fun e W' ⟨he, bel⟩ => ?_
  subst he
  exact ⟨_, rfl, _, _, _, [], _, [], hW', trodAll_mk1 (shut_bool Try.underlying4 _), (trodAll_cons_mk (shut_int Try.underlying2 w0) (trodAll_cons_mk (Below.trod laidOut (by as_aux_lemma => kernel_rfl) (of_decide_eq_true (by as_aux_lemma => kernel_rfl)) k1 bel lt1) (trodAll_cons_mk (Below.trod laidOut (by as_aux_lemma => kernel_rfl) (of_decide_eq_true (by as_aux_lemma => kernel_rfl)) k2 bel lt2) (trodAll_mk0)))), rfl, bel.frame _, fun h => by cases h⟩

/-- The given statement. -/
theorem proved : Rows.FnExactSpreadDelaysSaid :=
  OpenClaim.holds_of_wide 9 Try.f9 rfl rfl rfl rfl rfl rfl rfl ⟨rfl, rfl, rfl, rfl, rfl⟩ rfl rfl rfl rfl rfl (by kernel_rfl) Try.func9 (by kernel_rfl)
    (of_decide_eq_true (by kernel_rfl)) (by unfold Func.isWrapper; first | (rw [if_pos (by decide +kernel)]; kernel_rfl) | (rw [if_neg (by decide +kernel)]; exact ⟨rfl, rfl⟩))
    (fun os started H enc _ => lifted os started H enc)
#print axioms proved

end Go.Proofs.Ytahhmpaaggeakaa.lFnExactSpreadDelays
