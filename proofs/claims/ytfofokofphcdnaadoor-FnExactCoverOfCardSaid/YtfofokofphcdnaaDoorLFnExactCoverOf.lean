/- Whatever lists of shifts and counts are given, the program's CoverOf and the reference's return the same numbers and the same word, and share no memory: the law returns true. No condition beside the row's own listed tables. -/
import Derived.Test.YtfofokofphcdnaaDoorRows
import Derived.Test.YtfofokofphcdnaaDoorCards
import Derived.Test.YtfofokofphcdnaaDoorTie
import Derived.Test.YtfofokofphcdnaaDoorSlice
import Derived.Test.YtfofokofphcdnaaDoorTextS
import Derived.Test.YtfofokofphcdnaaDoorCovS
import Derived.Test.YtfofokofphcdnaaDoorCovI
import Derived.Test.YtfofokofphcdnaaDoorOpen
import Derived.Test.YtfofokofphcdnaaDoorOpen2
import Derived.Carry
import Derived.Lay
import Derived.LaidMore
import Derived.LaidOnce
import Derived.SevenTiedAt
namespace Go.Proofs.YtfofokofphcdnaaDoor.lFnExactCoverOf
open Go.ChangeShapes Go.WideShapes Go.ChangeAt Go.RowKit Go.Proofs.YtfofokofphcdnaaDoor Plain
set_option linter.unusedVariables false
set_option linter.unusedSimpArgs false
attribute [local go_sem ↓] Go.wp_at_zero Go.wp_at_succ

theorem len_ok (ts : List ByteArray) (i0 : ∀ x ∈ ts, x.size ≤ maxLen) (b0 : ts.length ≤ 1048576) (cs : List Int) (i1 : ∀ x ∈ cs, I64 x) (b1 : cs.length ≤ 1048576) : (cM ts cs).1.length ≤ 1048576 := cM_len ts cs
theorem spec_any (w : World) (v0 : Value) (ts : List ByteArray) (i0 : ∀ x ∈ ts, x.size ≤ maxLen) (b0 : ts.length ≤ 1048576) (s0 : Sl w 1 v0 ts.length (strs ts)) (v1 : Value) (cs : List Int) (i1 : ∀ x ∈ cs, I64 x) (b1 : cs.length ≤ 1048576) (s1 : Sl w 1 v1 cs.length (cs.map vi)) :
    Calls Tryd.prog 5 #[v0, v1] w (OutL 2 1 (cM ts cs).1.length ((cM ts cs).1.map vi) (fun u => .tuple #[u, .bool (cM ts cs).2]) w) := specCover_any w v0 ts i0 s0 v1 cs s1
theorem impl_any (w : World) (v0 : Value) (ts : List ByteArray) (i0 : ∀ x ∈ ts, x.size ≤ maxLen) (b0 : ts.length ≤ 1048576) (s0 : Sl w 1 v0 ts.length (strs ts)) (v1 : Value) (cs : List Int) (i1 : ∀ x ∈ cs, I64 x) (b1 : cs.length ≤ 1048576) (s1 : Sl w 1 v1 cs.length (cs.map vi)) :
    Calls Tryd.prog 8 #[v0, v1] w (OutL 2 1 (cM ts cs).1.length ((cM ts cs).1.map vi) (fun u => .tuple #[u, .bool (cM ts cs).2]) w) := implCover_any w v0 ts i0 s0 v1 cs s1


set_option maxHeartbeats 2000000 in
set_option maxRecDepth 100000 in
theorem walk (w : World) (v0 : Value) (x0 : List ByteArray) (i0 : ∀ x ∈ x0, x.size ≤ maxLen) (s0 : Sl w 1 v0 x0.length (strs x0)) (v1 : Value) (x1 : List Int) (i1 : ∀ x ∈ x1, I64 x) (s1 : Sl w 1 v1 x1.length (x1.map vi)) :
    Calls Tryd.prog 3 #[v0, v1] w fun e w' => e = .returned (.bool true) ∧ Below w.heap.size w w' := by
  obtain ⟨A0, cap0, hw0, _, hr0⟩ := id s0
  have hv0 := hd hw0; clear hw0
  obtain ⟨A1, cap1, hw1, _, hr1⟩ := id s1
  have hv1 := hd hw1; clear hw1
  have hm0 := hr0.2.1
  have hm1 := hr1.2.1
  by_cases b1 : x1.length ≤ 1048576
  rotate_left
  · have e1 := hv1.out; subst e1
    unfold maxLen at hm1
    have hx' : ¬ ((x1.length : Int) ≤ 1048576) := by omega
    go_enter Tryd.func3, Tryd.ntmps3
    go_wp2
    go_ret
    exact ⟨rfl, Below.refl _ _⟩
  have hz0 := hd (szStringS_b v0 x0 (1048576) w s0 i0 (by omega) (by omega))
  by_cases c0 : (1048576 : Int) < ((x0.length : Int) + sizes x0)
  · rw [if_pos c0] at hz0
    have e1 := hv1.out; subst e1
    have hx1 : (x1.length : Int) ≤ 1048576 := by omega
    go_enter Tryd.func3, Tryd.ntmps3
    go_wp2_with fail
    refine hz0.out.mono ?_; rintro e w' ⟨rfl, rfl⟩
    go_wp2
    go_ret
    exact ⟨rfl, Below.refl _ _⟩
  rw [if_neg c0] at hz0
  have l0 : (0 : Int) ≤ 1048576 - ((x0.length : Int) + sizes x0) := by omega
  have b0 : x0.length ≤ 1048576 := by have := sizes_nonneg x0; omega
  have hx1 : (x1.length : Int) ≤ 1048576 := by omega
  have z0 := size_le b0
  have z1 := size_le b1
  have bg := len_ok x0 i0 b0 x1 i1 b1
  have zg := size_le bg
  have hB := Below.refl w.heap.size w
  clear hr0 hm0
  clear hr1 hm1
  clear hv0
  have e1 := hv1.out; subst e1; clear hv1
  go_enter Tryd.func3, Tryd.ntmps3
  go_wp2_with fail
  refine hz0.out.mono ?_; rintro e w' ⟨rfl, rfl⟩
  clear hz0
  go_wp2_with fail
  refine (toStringS_any _ x0 _ (s0.below hB) b0).mono ?_; rintro e w1 ⟨s0_, rfl, ho_s0_, hb⟩
  replace ho_s0_ := own_mono ho_s0_ hB.size
  replace hB := below_tr hb hB
  clear hb
  go_wp2_with fail
  refine (toInt64S_any _ x1 _ (s1.below hB) b1).mono ?_; rintro e w2 ⟨s1_, rfl, ho_s1_, hb⟩
  have d_s0__s1_ := dj_new ho_s0_ ho_s1_
  replace ho_s0_ := own_below ho_s0_ hb
  replace ho_s1_ := own_mono ho_s1_ hB.size
  replace hB := below_tr hb hB
  clear hb
  go_wp2_with fail
  refine (spec_any _ _ x0 i0 b0 (own_sl ho_s0_ z0) _ x1 i1 b1 (own_sl ho_s1_ z1)).mono ?_; rintro e w3 ⟨w0, rfl, ho_w0, hb⟩
  have d_s0__w0 := dj_new ho_s0_ ho_w0
  have d_s1__w0 := dj_new ho_s1_ ho_w0
  replace ho_s0_ := own_below ho_s0_ hb
  replace ho_s1_ := own_below ho_s1_ hb
  replace ho_w0 := own_mono ho_w0 hB.size
  replace hB := below_tr hb hB
  clear hb
  clear ho_s0_ d_s0__s1_ d_s0__w0
  clear ho_s1_ d_s1__w0
  go_wp2_with fail
  refine (toStringS_any _ x0 _ (s0.below hB) b0).mono ?_; rintro e w4 ⟨x0_, rfl, ho_x0_, hb⟩
  have d_w0_x0_ := dj_new ho_w0 ho_x0_
  replace ho_w0 := own_below ho_w0 hb
  replace ho_x0_ := own_mono ho_x0_ hB.size
  replace hB := below_tr hb hB
  clear hb
  go_wp2_with fail
  refine (toInt64S_any _ x1 _ (s1.below hB) b1).mono ?_; rintro e w5 ⟨x1_, rfl, ho_x1_, hb⟩
  have d_w0_x1_ := dj_new ho_w0 ho_x1_
  have d_x0__x1_ := dj_new ho_x0_ ho_x1_
  replace ho_w0 := own_below ho_w0 hb
  replace ho_x0_ := own_below ho_x0_ hb
  replace ho_x1_ := own_mono ho_x1_ hB.size
  replace hB := below_tr hb hB
  clear hb
  go_wp2_with fail
  refine (impl_any _ _ x0 i0 b0 (own_sl ho_x0_ z0) _ x1 i1 b1 (own_sl ho_x1_ z1)).mono ?_; rintro e w6 ⟨g0, rfl, ho_g0, hb⟩
  have d_w0_g0 := dj_new ho_w0 ho_g0
  have d_x0__g0 := dj_new ho_x0_ ho_g0
  have d_x1__g0 := dj_new ho_x1_ ho_g0
  replace ho_w0 := own_below ho_w0 hb
  replace ho_x0_ := own_below ho_x0_ hb
  replace ho_x1_ := own_below ho_x1_ hb
  replace ho_g0 := own_mono ho_g0 hB.size
  replace hB := below_tr hb hB
  clear hb
  go_wp2_with fail
  refine (eqInt64S_b _ _ _ _ _ (own_sl ho_g0 zg) (own_sl ho_w0 zg)).mono ?_; rintro e w7 ⟨rfl, hb⟩
  replace ho_w0 := own_below ho_w0 hb
  replace ho_x0_ := own_below ho_x0_ hb
  replace ho_x1_ := own_below ho_x1_ hb
  replace ho_g0 := own_below ho_g0 hb
  replace hB := below_tr hb hB
  clear hb
  go_wp2_with fail
  refine (toStringS_any _ x0 _ (s0.below hB) b0).mono ?_; rintro e w8 ⟨c0_, rfl, ho_c0_, hb⟩
  have d_w0_c0_ := dj_new ho_w0 ho_c0_
  have d_x0__c0_ := dj_new ho_x0_ ho_c0_
  have d_x1__c0_ := dj_new ho_x1_ ho_c0_
  have d_g0_c0_ := dj_new ho_g0 ho_c0_
  replace ho_w0 := own_below ho_w0 hb
  replace ho_x0_ := own_below ho_x0_ hb
  replace ho_x1_ := own_below ho_x1_ hb
  replace ho_g0 := own_below ho_g0 hb
  replace ho_c0_ := own_mono ho_c0_ hB.size
  replace hB := below_tr hb hB
  clear hb
  go_wp2_with fail
  refine (eqStringS_b _ _ x0 x0 _ (own_sl ho_x0_ z0) (own_sl ho_c0_ z0)).mono ?_; rintro e w9 ⟨rfl, hb⟩
  replace ho_w0 := own_below ho_w0 hb
  replace ho_x0_ := own_below ho_x0_ hb
  replace ho_x1_ := own_below ho_x1_ hb
  replace ho_g0 := own_below ho_g0 hb
  replace ho_c0_ := own_below ho_c0_ hb
  replace hB := below_tr hb hB
  clear hb
  clear ho_c0_ d_w0_c0_ d_x0__c0_ d_x1__c0_ d_g0_c0_
  go_wp2_with fail
  refine (toInt64S_any _ x1 _ (s1.below hB) b1).mono ?_; rintro e w10 ⟨c1_, rfl, ho_c1_, hb⟩
  have d_w0_c1_ := dj_new ho_w0 ho_c1_
  have d_x0__c1_ := dj_new ho_x0_ ho_c1_
  have d_x1__c1_ := dj_new ho_x1_ ho_c1_
  have d_g0_c1_ := dj_new ho_g0 ho_c1_
  replace ho_w0 := own_below ho_w0 hb
  replace ho_x0_ := own_below ho_x0_ hb
  replace ho_x1_ := own_below ho_x1_ hb
  replace ho_g0 := own_below ho_g0 hb
  replace ho_c1_ := own_mono ho_c1_ hB.size
  replace hB := below_tr hb hB
  clear hb
  go_wp2_with fail
  refine (eqInt64S_b _ _ x1 x1 _ (own_sl ho_x1_ z1) (own_sl ho_c1_ z1)).mono ?_; rintro e w11 ⟨rfl, hb⟩
  replace ho_w0 := own_below ho_w0 hb
  replace ho_x0_ := own_below ho_x0_ hb
  replace ho_x1_ := own_below ho_x1_ hb
  replace ho_g0 := own_below ho_g0 hb
  replace ho_c1_ := own_below ho_c1_ hb
  replace hB := below_tr hb hB
  clear hb
  clear ho_c1_ d_w0_c1_ d_x0__c1_ d_x1__c1_ d_g0_c1_
  go_wp2_with fail
  have hrow := own_row ho_x0_ (Nat.le_refl _)
  refine (markStringS_any _ _ _ _ (1) _ ho_x0_ b0 (by omega) (by omega)).mono ?_; rintro e w12 ⟨rfl, ho', hg⟩
  replace ho_w0 := own_kept ho_w0 hg d_w0_x0_
  replace ho_x1_ := own_kept ho_x1_ hg (dj_symm d_x0__x1_)
  replace ho_g0 := own_kept ho_g0 hg (dj_symm d_x0__g0)
  replace ho_x0_ := ho'
  replace hB := below_row hg hB hrow
  clear hg hrow ho'
  go_wp2_with fail
  have hrow := own_row ho_x1_ (Nat.le_refl _)
  refine (markInt64S_any _ _ _ _ (1 + (x0.length : Int)) _ ho_x1_ b1 (by omega) (by omega)).mono ?_; rintro e w13 ⟨rfl, ho', hg⟩
  replace ho_w0 := own_kept ho_w0 hg d_w0_x1_
  replace ho_x0_ := own_kept ho_x0_ hg d_x0__x1_
  replace ho_g0 := own_kept ho_g0 hg (dj_symm d_x1__g0)
  replace ho_x1_ := ho'
  replace hB := below_row hg hB hrow
  clear hg hrow ho'
  clear ho_x0_ d_w0_x0_ d_x0__x1_ d_x0__g0
  clear ho_x1_ d_w0_x1_ d_x1__g0
  go_wp2_with fail
  refine (eqInt64S_b _ _ _ _ _ (own_sl ho_g0 zg) (own_sl ho_w0 zg)).mono ?_; rintro e w14 ⟨rfl, hb⟩
  replace ho_w0 := own_below ho_w0 hb
  replace ho_g0 := own_below ho_g0 hb
  replace hB := below_tr hb hB
  clear hb
  go_wp2_with fail
  have hrow := own_row ho_g0 (Nat.le_refl _)
  refine (markInt64S_any _ _ _ _ (1) _ ho_g0 bg (by omega) (by omega)).mono ?_; rintro e w15 ⟨rfl, ho', hg⟩
  replace ho_w0 := own_kept ho_w0 hg d_w0_g0
  replace ho_g0 := ho'
  replace hB := below_row hg hB hrow
  clear hg hrow ho'
  go_wp2_with fail
  refine (heldInt64S_b _ _ (1) _ (own_sl ho_g0 zg) bg (by omega) (by omega)).mono ?_; rintro e w16 ⟨rfl, hb⟩
  replace ho_w0 := own_below ho_w0 hb
  replace ho_g0 := own_below ho_g0 hb
  replace hB := below_tr hb hB
  clear hb
  go_wp2_with fail
  refine (toStringS_any _ x0 _ (s0.below hB) b0).mono ?_; rintro e w17 ⟨t0_, rfl, ho_t0_, hb⟩
  have d_w0_t0_ := dj_new ho_w0 ho_t0_
  have d_g0_t0_ := dj_new ho_g0 ho_t0_
  replace ho_w0 := own_below ho_w0 hb
  replace ho_g0 := own_below ho_g0 hb
  replace ho_t0_ := own_mono ho_t0_ hB.size
  replace hB := below_tr hb hB
  clear hb
  go_wp2_with fail
  refine (toInt64S_any _ x1 _ (s1.below hB) b1).mono ?_; rintro e w18 ⟨t1_, rfl, ho_t1_, hb⟩
  have d_w0_t1_ := dj_new ho_w0 ho_t1_
  have d_g0_t1_ := dj_new ho_g0 ho_t1_
  have d_t0__t1_ := dj_new ho_t0_ ho_t1_
  replace ho_w0 := own_below ho_w0 hb
  replace ho_g0 := own_below ho_g0 hb
  replace ho_t0_ := own_below ho_t0_ hb
  replace ho_t1_ := own_mono ho_t1_ hB.size
  replace hB := below_tr hb hB
  clear hb
  go_wp2_with fail
  refine (impl_any _ _ x0 i0 b0 (own_sl ho_t0_ z0) _ x1 i1 b1 (own_sl ho_t1_ z1)).mono ?_; rintro e w19 ⟨h0, rfl, ho_h0, hb⟩
  have d_w0_h0 := dj_new ho_w0 ho_h0
  have d_g0_h0 := dj_new ho_g0 ho_h0
  have d_t0__h0 := dj_new ho_t0_ ho_h0
  have d_t1__h0 := dj_new ho_t1_ ho_h0
  replace ho_w0 := own_below ho_w0 hb
  replace ho_g0 := own_below ho_g0 hb
  replace ho_t0_ := own_below ho_t0_ hb
  replace ho_t1_ := own_below ho_t1_ hb
  replace ho_h0 := own_mono ho_h0 hB.size
  replace hB := below_tr hb hB
  clear hb
  go_wp2_with fail
  refine (eqInt64S_b _ _ _ _ _ (own_sl ho_h0 zg) (own_sl ho_w0 zg)).mono ?_; rintro e w20 ⟨rfl, hb⟩
  replace ho_w0 := own_below ho_w0 hb
  replace ho_g0 := own_below ho_g0 hb
  replace ho_t0_ := own_below ho_t0_ hb
  replace ho_t1_ := own_below ho_t1_ hb
  replace ho_h0 := own_below ho_h0 hb
  replace hB := below_tr hb hB
  clear hb
  go_wp2_with fail
  refine (heldInt64S_b _ _ (1) _ (own_sl ho_g0 zg) bg (by omega) (by omega)).mono ?_; rintro e w21 ⟨rfl, hb⟩
  replace ho_w0 := own_below ho_w0 hb
  replace ho_g0 := own_below ho_g0 hb
  replace ho_t0_ := own_below ho_t0_ hb
  replace ho_t1_ := own_below ho_t1_ hb
  replace ho_h0 := own_below ho_h0 hb
  replace hB := below_tr hb hB
  clear hb
  go_wp2_with fail
  go_ret
  exact ⟨rfl, hB⟩

theorem own : ownKnob Tryd.prog.godebug = none := by kernel_rfl
theorem laidOut : laidOutB Tryd.prog = true := by kernel_rfl

set_option maxRecDepth 100000 in
theorem lifted (os : Os) (started : os.Started) (H : Type) (enc : TypeId × Value → H) :
    ReturnsInHanded {} Tryd.checked os 3 .any (fun w args => (Rows.fnExactCoverOfSpec.pre enc Tryd.prog Tryd.f3 Rows.fnExactCoverOfRow.domain false w args ∧ laidMetH Tryd.prog Rows.fnExactCoverOfRow.laid w) ∧ sizedMet enc Tryd.prog Tryd.f3 (OpenSpec.ofChange Rows.fnExactCoverOfSpec) false w args) (Rows.fnExactCoverOfSpec.post enc Tryd.prog Tryd.f3 false true false false) := by
  refine returnsInHanded_of_change_and (C := Tryd.checked) (X := fun w _ => laidMetH Tryd.prog Rows.fnExactCoverOfRow.laid w) (fun _ _ _ hh h => h.of_heap hh) own started (by as_aux_lemma => kernel_rfl) Tryd.func3
    (ChangeSpec.witness_shaped (enc := enc) (C := Tryd.checked) (os := os) (X := fun w _ => laidMetH Tryd.prog Rows.fnExactCoverOfRow.laid w) false (World.laidAll Tryd.prog os Rows.fnExactCoverOfRow.laid) #[.slice none 0 0, .slice none 0 0] 8 (World.laidAll_os _ _ _)
      (World.shaped_of_ZipB (by as_aux_lemma => kernel_rfl) (by as_aux_lemma => kernel_rfl)) (by as_aux_lemma => kernel_rfl) (by as_aux_lemma => kernel_rfl) (by as_aux_lemma => kernel_rfl)
      (by rw [MakeChecks.laidMetH_plain _ _ _ (by as_aux_lemma => kernel_rfl)]; exact laidMet_laidAll _ (by as_aux_lemma => kernel_rfl) (by as_aux_lemma => kernel_rfl))) ?_
  intro W base args ds gs before hval0 hW hcnd _ hLaid _
  have hval : ∀ (j : Nat) t v, Tryd.f3.params[j]? = some t → args[j]? = some v → Value.okWide Tryd.prog W .any base t v := hval0
  have hW' := hW
  obtain ⟨p, q, hA0, hV, rfl, hfz, hnd⟩ := hW
  have hA : DataW.TrodAll enc Tryd.prog W 0 (fun _ => true) true Tryd.f3.params.toList args.toList ds p := hA0
  rw [Tryd.params3] at hA hval
  obtain ⟨v0, vs0, d0, ds0, p0, q0, hargs, rfl, rfl, h0, r0⟩ := trodAll_cons hA
  obtain ⟨v1, vs1, d1, ds1, p1, q1, rfl, rfl, rfl, h1, r1⟩ := trodAll_cons r0
  obtain ⟨rfl, rfl, rfl⟩ := trodAll_nil r1
  obtain rfl : args = #[v0, v1] := by cases args; simp_all
  obtain ⟨rfl, rfl⟩ := trodVars_none hV
  have k0 := h0
  have lt0 : ∀ x ∈ p0, x.block < W.heap.size := by obtain ⟨m, hm⟩ := k0; exact DataW.trod_lt m _ _ _ hm
  obtain ⟨s0, len0, cap0, rfl⟩ := okWide_slice Tryd.underlying22 (hval 0 22 v0 rfl rfl)
  obtain ⟨x0, _, i0, w0⟩ := arg_texts Tryd.underlying22 Tryd.underlying9 (by as_aux_lemma => kernel_rfl) h0
  have k1 := h1
  have lt1 : ∀ x ∈ p1, x.block < W.heap.size := by obtain ⟨m, hm⟩ := k1; exact DataW.trod_lt m _ _ _ hm
  obtain ⟨s1, len1, cap1, rfl⟩ := okWide_slice Tryd.underlying23 (hval 1 23 v1 rfl rfl)
  obtain ⟨x1, _, i1, w1⟩ := arg_ints Tryd.underlying23 Tryd.underlying2 (by as_aux_lemma => kernel_rfl) h1
  clear hA0 hval0
  refine (walk W _ x0 i0 w0 _ x1 i1 w1).mono fun e W' ⟨he, bel⟩ => ?_
  subst he
  exact ⟨_, rfl, _, _, _, [], _, [], hW', trodAll_mk1 (shut_bool Tryd.underlying4 _), (trodAll_cons_mk (Below.trod laidOut (by as_aux_lemma => kernel_rfl) (of_decide_eq_true (by as_aux_lemma => kernel_rfl)) k0 bel lt0) (trodAll_cons_mk (Below.trod laidOut (by as_aux_lemma => kernel_rfl) (of_decide_eq_true (by as_aux_lemma => kernel_rfl)) k1 bel lt1) (trodAll_mk0))), rfl, bel.frame _, fun h => by cases h⟩

/-- The row. -/
theorem rowHolds : Rows.FnExactCoverOfSaid :=
  OpenClaim.holds_of_wide 3 Tryd.f3 rfl rfl rfl rfl rfl rfl rfl ⟨rfl, rfl, rfl, rfl, rfl⟩ rfl rfl rfl rfl rfl (by kernel_rfl) Tryd.func3 (by kernel_rfl)
    (of_decide_eq_true (by kernel_rfl)) (by unfold Func.isWrapper; first | (rw [if_pos (by decide +kernel)]; kernel_rfl) | (rw [if_neg (by decide +kernel)]; exact ⟨rfl, rfl⟩))
    (fun os started H enc _ => lifted os started H enc)
/-- The given statement: the tied card. -/
theorem proved : Rows.FnExactCoverOfCardSaid :=
  Claim7.holds_tied_plain_at .later [] [.data, .pinned] true Rows.fnExactCoverOfCard.stood.harness false rowHolds (fun _ h => by cases h) (by kernel_rfl) (fun _ h => by cases h) fnExactCoverOf_row_tie rfl ⟨rfl, rfl⟩ (by kernel_rfl) rfl
    (fun f fn hf hfn => by
      obtain rfl : f = 3 := Option.some.inj ((show Tryd.prog.funcNamed "loop.example/g01389/laws.FnExactCoverOf" = some 3 by kernel_rfl).symm.trans hf) |>.symm
      obtain rfl : fn = Tryd.f3 := (Option.some.inj (Tryd.func3.symm.trans hfn)).symm
      exact ⟨by kernel_rfl, fun j t ht => by
        rw [Tryd.params3] at ht
        have hm : t ∈ [22, 23] := by simpa using Array.mem_of_getElem? ht
        have hall : ([22, 23].all fun u => !Tryd.prog.wantsStandIn u) = true := by kernel_rfl
        exact (show Tryd.prog.wantsStandIn t = false by simpa using List.all_eq_true.1 hall t hm)⟩)
    (by kernel_rfl)
#print axioms proved


end Go.Proofs.YtfofokofphcdnaaDoor.lFnExactCoverOf
