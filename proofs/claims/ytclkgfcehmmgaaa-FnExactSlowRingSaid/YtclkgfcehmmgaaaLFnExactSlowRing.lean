/- Whatever nodes and arcs are given, the program's SlowRing and the reference's return the same, in new memory, and the law's own copies are left as they were: the law returns true. No condition. -/
import Derived.Test.YtclkgfcehmmgaaaRows
import Derived.Test.YtclkgfcehmmgaaaSlice
import Derived.Test.YtclkgfcehmmgaaaQSlice
import Derived.Test.YtclkgfcehmmgaaaSlowU
import Derived.Test.YtclkgfcehmmgaaaSlowV
import Derived.Test.YtclkgfcehmmgaaaOpen
namespace Go.Proofs.Ytclkgfcehmmgaaa.lFnExactSlowRing
open Go.ChangeShapes Go.WideShapes Go.ChangeAt Go.RowKit Go.Proofs.Ytclkgfcehmmgaaa Plain
set_option linter.unusedVariables false
set_option linter.unusedSimpArgs false
attribute [local go_sem ↓] Go.wp_at_zero Go.wp_at_succ

noncomputable def M (ev : Int) (l : List Q4) : List Int × Bool := MSl ev l
theorem impl_any (w : World) (ev : Int) (_i : I64 ev) (v : Value) (l : List Q4) (_j : ∀ y ∈ l, y.I64) (_b : l.length ≤ 1048576) (s : Sl w 4 v l.length (q4s l)) :
    Calls Try.prog 10 #[.int .i64 ev, v] w (OutL 2 1 (M ev l).1.length ((M ev l).1.map vi) (fun u => .tuple #[u, .bool (M ev l).2]) w) := SlowRing_any w ev _i v l _j _b s
theorem spec_any (w : World) (ev : Int) (_i : I64 ev) (v : Value) (l : List Q4) (_j : ∀ y ∈ l, y.I64) (_b : l.length ≤ 1048576) (s : Sl w 4 v l.length (q4s l)) :
    Calls Try.prog 16 #[.int .i64 ev, v] w (OutL 2 1 (M ev l).1.length ((M ev l).1.map vi) (fun u => .tuple #[u, .bool (M ev l).2]) w) := specSlowRing_any w ev _i v l _j _b s
theorem len_ok (ev : Int) (_i : I64 ev) (l : List Q4) (_j : ∀ y ∈ l, y.I64) (_b : l.length ≤ 1048576) : (M ev l).1.length ≤ 1048576 := Nat.le_trans (MSl_len ev l) (by decide)

set_option maxHeartbeats 2000000 in
set_option maxRecDepth 100000 in
theorem walk (w : World) (a0 : Int) (i0 : I64 a0) (v1 : Value) (x1 : List Q4) (i1 : ∀ x ∈ x1, x.I64) (s1 : Sl w 4 v1 x1.length (q4s x1)) :
    Calls Try.prog 4 #[.int .i64 a0, v1] w fun e w' => e = .returned (.bool true) ∧ Below w.heap.size w w' := by
  obtain ⟨A1, cap1, hw1, _, hr1⟩ := id s1
  have hv1 := hd hw1; clear hw1
  have hm1 := hr1.2.1
  have hz1 := hd (szArcS_any v1 x1.length (1048576) w ⟨A1, cap1, hv1.out, hm1⟩ (by omega) (by omega))
  by_cases c1 : (1048576 : Int) < x1.length
  · rw [if_pos c1] at hz1
    go_enter Try.func4, Try.ntmps4
    go_wp2_with fail
    refine hz1.out.mono ?_; rintro e w' ⟨rfl, rfl⟩
    go_wp2
    go_ret
    exact ⟨rfl, Below.refl _ _⟩
  rw [if_neg c1] at hz1
  have l1 : (0 : Int) ≤ 1048576 - x1.length := by omega
  have b1 : x1.length ≤ 1048576 := by omega
  have z1 := size_le b1
  have bg := len_ok a0 i0 x1 i1 b1
  have zg := size_le bg
  have hB := Below.refl w.heap.size w
  clear hr1 hm1
  clear hv1
  go_enter Try.func4, Try.ntmps4
  go_wp2_with fail
  refine hz1.out.mono ?_; rintro e w' ⟨rfl, rfl⟩
  clear hz1
  go_wp2_with fail
  refine (toArcS_any _ x1 _ (s1.below hB) b1).mono ?_; rintro e w1 ⟨s1_, rfl, ho_s1_, hb⟩
  replace ho_s1_ := own_mono ho_s1_ hB.size
  replace hB := below_tr hb hB
  clear hb
  go_wp2_with fail
  refine (spec_any _ a0 i0 _ x1 i1 b1 (own_sl ho_s1_ z1)).mono ?_; rintro e w2 ⟨w0, rfl, ho_w0, hb⟩
  have d_s1__w0 := dj_new ho_s1_ ho_w0
  replace ho_s1_ := own_below ho_s1_ hb
  replace ho_w0 := own_mono ho_w0 hB.size
  replace hB := below_tr hb hB
  clear hb
  clear ho_s1_ d_s1__w0
  go_wp2_with fail
  refine (toArcS_any _ x1 _ (s1.below hB) b1).mono ?_; rintro e w3 ⟨x1_, rfl, ho_x1_, hb⟩
  have d_w0_x1_ := dj_new ho_w0 ho_x1_
  replace ho_w0 := own_below ho_w0 hb
  replace ho_x1_ := own_mono ho_x1_ hB.size
  replace hB := below_tr hb hB
  clear hb
  go_wp2_with fail
  refine (impl_any _ a0 i0 _ x1 i1 b1 (own_sl ho_x1_ z1)).mono ?_; rintro e w4 ⟨g0, rfl, ho_g0, hb⟩
  have d_w0_g0 := dj_new ho_w0 ho_g0
  have d_x1__g0 := dj_new ho_x1_ ho_g0
  replace ho_w0 := own_below ho_w0 hb
  replace ho_x1_ := own_below ho_x1_ hb
  replace ho_g0 := own_mono ho_g0 hB.size
  replace hB := below_tr hb hB
  clear hb
  go_wp2_with fail
  refine (eqInt64S_b _ _ _ _ _ (own_sl ho_g0 zg) (own_sl ho_w0 zg)).mono ?_; rintro e w5 ⟨rfl, hb⟩
  replace ho_w0 := own_below ho_w0 hb
  replace ho_x1_ := own_below ho_x1_ hb
  replace ho_g0 := own_below ho_g0 hb
  replace hB := below_tr hb hB
  clear hb
  go_wp2_with fail
  refine (toArcS_any _ x1 _ (s1.below hB) b1).mono ?_; rintro e w6 ⟨c1_, rfl, ho_c1_, hb⟩
  have d_w0_c1_ := dj_new ho_w0 ho_c1_
  have d_x1__c1_ := dj_new ho_x1_ ho_c1_
  have d_g0_c1_ := dj_new ho_g0 ho_c1_
  replace ho_w0 := own_below ho_w0 hb
  replace ho_x1_ := own_below ho_x1_ hb
  replace ho_g0 := own_below ho_g0 hb
  replace ho_c1_ := own_mono ho_c1_ hB.size
  replace hB := below_tr hb hB
  clear hb
  go_wp2_with fail
  refine (eqArcS_any _ _ x1 x1 _ (own_sl ho_x1_ z1) (own_sl ho_c1_ z1)).mono ?_; rintro e w7 ⟨rfl, hb⟩
  replace ho_w0 := own_below ho_w0 hb
  replace ho_x1_ := own_below ho_x1_ hb
  replace ho_g0 := own_below ho_g0 hb
  replace ho_c1_ := own_below ho_c1_ hb
  replace hB := below_tr hb hB
  clear hb
  clear ho_c1_ d_w0_c1_ d_x1__c1_ d_g0_c1_
  go_wp2_with fail
  have hrow := own_row ho_x1_ (Nat.le_refl _)
  refine (markArcS_any _ _ _ _ (1) _ ho_x1_ b1 (by omega) (by omega)).mono ?_; rintro e w8 ⟨rfl, ho', hg⟩
  replace ho_w0 := own_kept ho_w0 hg d_w0_x1_
  replace ho_g0 := own_kept ho_g0 hg (dj_symm d_x1__g0)
  replace ho_x1_ := ho'
  replace hB := below_row hg hB hrow
  clear hg hrow ho'
  clear ho_x1_ d_w0_x1_ d_x1__g0
  go_wp2_with fail
  refine (eqInt64S_b _ _ _ _ _ (own_sl ho_g0 zg) (own_sl ho_w0 zg)).mono ?_; rintro e w9 ⟨rfl, hb⟩
  replace ho_w0 := own_below ho_w0 hb
  replace ho_g0 := own_below ho_g0 hb
  replace hB := below_tr hb hB
  clear hb
  go_wp2_with fail
  have hrow := own_row ho_g0 (Nat.le_refl _)
  refine (markInt64S_any _ _ _ _ (1) _ ho_g0 bg (by omega) (by omega)).mono ?_; rintro e w10 ⟨rfl, ho', hg⟩
  replace ho_w0 := own_kept ho_w0 hg d_w0_g0
  replace ho_g0 := ho'
  replace hB := below_row hg hB hrow
  clear hg hrow ho'
  go_wp2_with fail
  refine (heldInt64S_b _ _ (1) _ (own_sl ho_g0 zg) bg (by omega) (by omega)).mono ?_; rintro e w11 ⟨rfl, hb⟩
  replace ho_w0 := own_below ho_w0 hb
  replace ho_g0 := own_below ho_g0 hb
  replace hB := below_tr hb hB
  clear hb
  go_wp2_with fail
  refine (toArcS_any _ x1 _ (s1.below hB) b1).mono ?_; rintro e w12 ⟨t1_, rfl, ho_t1_, hb⟩
  have d_w0_t1_ := dj_new ho_w0 ho_t1_
  have d_g0_t1_ := dj_new ho_g0 ho_t1_
  replace ho_w0 := own_below ho_w0 hb
  replace ho_g0 := own_below ho_g0 hb
  replace ho_t1_ := own_mono ho_t1_ hB.size
  replace hB := below_tr hb hB
  clear hb
  go_wp2_with fail
  refine (impl_any _ a0 i0 _ x1 i1 b1 (own_sl ho_t1_ z1)).mono ?_; rintro e w13 ⟨h0, rfl, ho_h0, hb⟩
  have d_w0_h0 := dj_new ho_w0 ho_h0
  have d_g0_h0 := dj_new ho_g0 ho_h0
  have d_t1__h0 := dj_new ho_t1_ ho_h0
  replace ho_w0 := own_below ho_w0 hb
  replace ho_g0 := own_below ho_g0 hb
  replace ho_t1_ := own_below ho_t1_ hb
  replace ho_h0 := own_mono ho_h0 hB.size
  replace hB := below_tr hb hB
  clear hb
  go_wp2_with fail
  refine (eqInt64S_b _ _ _ _ _ (own_sl ho_h0 zg) (own_sl ho_w0 zg)).mono ?_; rintro e w14 ⟨rfl, hb⟩
  replace ho_w0 := own_below ho_w0 hb
  replace ho_g0 := own_below ho_g0 hb
  replace ho_t1_ := own_below ho_t1_ hb
  replace ho_h0 := own_below ho_h0 hb
  replace hB := below_tr hb hB
  clear hb
  go_wp2_with fail
  refine (heldInt64S_b _ _ (1) _ (own_sl ho_g0 zg) bg (by omega) (by omega)).mono ?_; rintro e w15 ⟨rfl, hb⟩
  replace ho_w0 := own_below ho_w0 hb
  replace ho_g0 := own_below ho_g0 hb
  replace ho_t1_ := own_below ho_t1_ hb
  replace ho_h0 := own_below ho_h0 hb
  replace hB := below_tr hb hB
  clear hb
  go_wp2_with fail
  go_ret
  exact ⟨rfl, hB⟩

theorem own : ownKnob Try.prog.godebug = none := by kernel_rfl
theorem laidOut : laidOutB Try.prog = true := by kernel_rfl

set_option maxRecDepth 100000 in
theorem lifted (os : Os) (started : os.Started) (H : Type) (enc : TypeId × Value → H) :
    ReturnsInHanded {} Try.checked os 4 .any (Rows.fnExactSlowRingSpec.pre6 enc Try.prog Try.f4 Rows.fnExactSlowRingRow.domain false) (Rows.fnExactSlowRingSpec.post enc Try.prog Try.f4 false true false false) := by
  refine returnsInHanded_of_change (C := Try.checked) own started (by as_aux_lemma => kernel_rfl) Try.func4
    (ChangeSpec.witness6 (enc := enc) (C := Try.checked) false ⟨#[], #[.int .i64 0, .slice none 0 0], []⟩ 8 (by as_aux_lemma => kernel_rfl) (by as_aux_lemma => kernel_rfl) (by as_aux_lemma => kernel_rfl) (by as_aux_lemma => kernel_rfl)) ?_
  intro W base args ds gs before hval0 hW hcnd _
  have hval : ∀ (j : Nat) t v, Try.f4.params[j]? = some t → args[j]? = some v → Value.okWide Try.prog W .any base t v := hval0
  have hW' := hW
  obtain ⟨p, q, hA0, hV, rfl, hfz, hnd⟩ := hW
  have hA : DataW.TrodAll enc Try.prog W 0 (fun _ => true) true Try.f4.params.toList args.toList ds p := hA0
  rw [Try.params4] at hA hval
  obtain ⟨v0, vs0, d0, ds0, p0, q0, hargs, rfl, rfl, h0, r0⟩ := trodAll_cons hA
  obtain ⟨v1, vs1, d1, ds1, p1, q1, rfl, rfl, rfl, h1, r1⟩ := trodAll_cons r0
  obtain ⟨rfl, rfl, rfl⟩ := trodAll_nil r1
  obtain rfl : args = #[v0, v1] := by cases args; simp_all
  obtain ⟨rfl, rfl⟩ := trodVars_none hV
  obtain ⟨a0, rfl, rfl, rfl, w0⟩ := open_int Try.underlying2 (hval 0 2 v0 rfl rfl) h0
  have k1 := h1
  have lt1 : ∀ x ∈ p1, x.block < W.heap.size := by obtain ⟨m, hm⟩ := k1; exact DataW.trod_lt m _ _ _ hm
  obtain ⟨s1, len1, cap1, rfl⟩ := okWide_slice Try.underlying41 (hval 1 41 v1 rfl rfl)
  obtain ⟨x1, _, i1, w1⟩ := arg_q4 Try.underlying41 Try.underlying62 Try.underlying2 rfl (by as_aux_lemma => kernel_rfl) (by as_aux_lemma => kernel_rfl) h1
  clear hA0 hval0
  refine (walk W a0 (i64_of_wf w0) _ x1 i1 w1).mono fun e W' ⟨he, bel⟩ => ?_
  subst he
  exact ⟨_, rfl, _, _, _, [], _, [], hW', trodAll_mk1 (shut_bool Try.underlying4 _), (trodAll_cons_mk (shut_int Try.underlying2 w0) (trodAll_cons_mk (Below.trod laidOut (by as_aux_lemma => kernel_rfl) (of_decide_eq_true (by as_aux_lemma => kernel_rfl)) k1 bel lt1) (trodAll_mk0))), rfl, bel.frame _, fun h => by cases h⟩

/-- The given statement. -/
theorem proved : Rows.FnExactSlowRingSaid :=
  OpenClaim.holds_of_wide 4 Try.f4 rfl rfl rfl rfl rfl rfl rfl ⟨rfl, rfl, rfl, rfl, rfl⟩ rfl rfl rfl rfl rfl (by kernel_rfl) Try.func4 (by kernel_rfl)
    (of_decide_eq_true (by kernel_rfl)) (by unfold Func.isWrapper; first | (rw [if_pos (by decide +kernel)]; kernel_rfl) | (rw [if_neg (by decide +kernel)]; exact ⟨rfl, rfl⟩))
    (fun os started H enc _ => lifted os started H enc)
#print axioms proved

end Go.Proofs.Ytclkgfcehmmgaaa.lFnExactSlowRing
