/- Whatever load and number of servers are given, the program's MeanWait and the reference's return the same number, up to which NaN, and the same bool: the law returns true. No condition. -/
import Derived.Test.YtcfkcahibkpjhaaRows
import Derived.Test.YtcfkcahibkpjhaaWaitCh
import Derived.Test.YtcfkcahibkpjhaaWords
import Derived.Test.YtcfkcahibkpjhaaSameF
import Derived.Test.YtcfkcahibkpjhaaFloatConv
import Derived.Test.YtcfkcahibkpjhaaOpen
namespace Go.Proofs.Ytcfkcahibkpjhaa.lFnExactMeanWait
open Go.ChangeShapes Go.WideShapes Go.ChangeAt Go.RowKit Go.Proofs.Ytcfkcahibkpjhaa Plain
set_option linter.unusedVariables false
set_option linter.unusedSimpArgs false
attribute [local go_sem ↓] Go.wp_at_zero Go.wp_at_succ

set_option maxHeartbeats 2000000 in
theorem impl_any (w : World) (a : Nat) (wa : a < 4294967296) (n : Int) : Calls Try.prog 39 #[.float .f32 a, .int .i64 n] w (FloatOut2 (meanM a n) w) := by
  have HW := hd (fun w => implWait_any w a wa n)
  cases h1 : loadB a && (inR n 1 96 && lessB a n) with
  | false =>
    have H := hd (show meanM a n = (some 0, false) by rw [meanM, h1]; rfl)
    have HM := hd (show waitM a n = (some 0, false) by rw [waitM, h1]; rfl)
    have HW2 := hd (HM.out ▸ HW.out)
    clear wa h1 HW
    go_enter Try.func39, Try.ntmps39
    go_wp2_with (go_at_call 29; refine (HW2.out _).mono ?_; rintro e w' ⟨b, rfl, hb, hB⟩; have Hb := hd hb; clear hb)
    go_ret2
    rw [H.out]
    exact ⟨_, rfl, nrm_zero, hB⟩
  | true =>
    have h2 := h1
    simp only [Bool.and_eq_true] at h2
    obtain ⟨n1, n2⟩ := inR_iff.1 h2.2.1
    obtain ⟨m, rfl⟩ := Int.eq_ofNat_of_zero_le (show 0 ≤ n by omega)
    have H := hd (show meanM a m = (meanF (nrm .f32 a) m, true) by rw [meanM, h1]; rfl)
    have HM := hd (show waitM a m = (waitF (nrm .f32 a) m, true) by rw [waitM, h1]; rfl)
    have HW2 := hd (HM.out ▸ HW.out)
    clear wa h1 HW h2
    go_enter Try.func39, Try.ntmps39
    go_wp2_with (first
      | (go_at_call 29; refine (HW2.out _).mono ?_; rintro e w' ⟨b, rfl, hb, hB⟩; have Hb := hd hb; clear hb)
      | (refine wpList_fop _ rfl .sub _ _ _ _ rfl .f32 _ _ rfl rfl (by simp) ?_; intro r1 n1 h1; have H1 := hd h1; clear h1)
      | (refine wpList_fop _ rfl .quo _ _ _ _ rfl .f32 _ _ rfl rfl (by simp) ?_; intro r2 n2 h2; have H2 := hd h2; clear h2))
    go_ret2
    rw [H.out]
    exact ⟨_, rfl, by rw [H2.out, H1.out, show nrm .f32 b = _ from Hb.out, nrm_ofInt]; rfl, by first | exact below_drewN (below_drewN hB _) _ | exact below_drewN hB _⟩

set_option maxHeartbeats 2000000 in
theorem spec_any (w : World) (a : Nat) (wa : a < 4294967296) (n : Int) : Calls Try.prog 38 #[.float .f32 a, .int .i64 n] w (FloatOut2 (meanM a n) w) := by
  have HW := hd (fun w => specWait_any w a wa n)
  cases h1 : loadB a && (inR n 1 96 && lessB a n) with
  | false =>
    have H := hd (show meanM a n = (some 0, false) by rw [meanM, h1]; rfl)
    have HM := hd (show waitM a n = (some 0, false) by rw [waitM, h1]; rfl)
    have HW2 := hd (HM.out ▸ HW.out)
    clear wa h1 HW
    go_enter Try.func38, Try.ntmps38
    go_wp2_with (go_at_call 28; refine (HW2.out _).mono ?_; rintro e w' ⟨b, rfl, hb, hB⟩; have Hb := hd hb; clear hb)
    go_ret2
    rw [H.out]
    exact ⟨_, rfl, nrm_zero, hB⟩
  | true =>
    have h2 := h1
    simp only [Bool.and_eq_true] at h2
    obtain ⟨n1, n2⟩ := inR_iff.1 h2.2.1
    obtain ⟨m, rfl⟩ := Int.eq_ofNat_of_zero_le (show 0 ≤ n by omega)
    have ha := load_rung wa h2.1
    have HF := hd (show finB (meanF (nrm .f32 a) m) = true by
      obtain ⟨z, hz, hz2⟩ := meanF_le ha (by omega) (by omega) (of_decide_eq_true h2.2.2)
      rw [load_nrm ha, hz]; exact finB_rung (by omega))
    have H := hd (show meanM a m = (meanF (nrm .f32 a) m, true) by rw [meanM, h1]; rfl)
    have HM := hd (show waitM a m = (waitF (nrm .f32 a) m, true) by rw [waitM, h1]; rfl)
    have HW2 := hd (HM.out ▸ HW.out)
    clear wa h1 HW h2 ha
    go_enter Try.func38, Try.ntmps38
    go_wp2_with (first
      | (go_at_call 28; refine (HW2.out _).mono ?_; rintro e w' ⟨b, rfl, hb, hB⟩; have Hb := hd hb; clear hb)
      | (refine wpList_fop _ rfl .sub _ _ _ _ rfl .f32 _ _ rfl rfl (by simp) ?_; intro r1 n1 h1; have H1 := hd h1; clear h1)
      | (refine wpList_fop _ rfl .quo _ _ _ _ rfl .f32 _ _ rfl rfl (by simp) ?_; intro r2 n2 h2; have H2 := hd h2; clear h2; have H3 := hd (show nrm .f32 r2 = meanF (nrm .f32 a) m by rw [H2.out, H1.out, show nrm .f32 b = _ from Hb.out, nrm_ofInt]; rfl))
      | (go_at_call 99; refine (l02Number_t _ _ (by rw [H3.out]; exact HF.out)).mono ?_; rintro e w' ⟨rfl, hb2⟩))
    go_ret2
    rw [H.out]
    exact ⟨_, rfl, H3.out, below_tr hb2 (by first | exact below_drewN (below_drewN hB _) _ | exact below_drewN hB _)⟩

theorem wf32 {a : Nat} (h : (Lit.float .f32 a).wf = true) : a < 4294967296 := by simpa [Lit.wf] using h
set_option maxHeartbeats 1000000 in
theorem walk (w : World) (a : Nat) (wa : (Lit.float .f32 a).wf = true) (n : Int) (hn : I64 n) :
    Calls Try.prog 8 #[.float .f32 a, .int .i64 n] w fun e w' => e = .returned (.bool true) ∧ Below w.heap.size w w' := by
  have hs := hd (fun w => spec_any w a (wf32 wa) n)
  have hi := hd (fun w => impl_any w a (wf32 wa) n)
  clear wa hn
  go_enter Try.func8, Try.ntmps8
  go_wp2_with fail
  refine (hs.out _).mono ?_; rintro e w1 ⟨b1, rfl, h1, hb1⟩
  have H1 := hd h1; clear h1
  go_wp2_with fail
  refine (hi.out _).mono ?_; rintro e w2 ⟨b2, rfl, h2, hb2⟩
  have H2 := hd h2; clear h2
  have hB := below_tr hb2 hb1
  clear hb1 hb2
  go_wp2_with (first
    | (refine wpList_cv _ rfl (.tmp 21) _ _ rfl _ rfl Try.underlying41 Try.underlying45 ?_; intro r3 n3 h3; have H3 := hd h3; clear h3)
    | (refine wpList_cv _ rfl (.tmp 23) _ _ rfl _ rfl Try.underlying41 Try.underlying45 ?_; intro r4 n4 h4; have H4 := hd h4; clear h4)
    | (go_at_call 30; refine (sameFloat_any _ _ (cvF (meanM a n).1) _ (H3.out.trans (congrArg cvF H2.out)) (H4.out.trans (congrArg cvF H1.out))).mono ?_; rintro e w' ⟨rfl, k, rfl⟩))
  go_ret
  exact ⟨rfl, below_drewN hB _⟩

theorem own : ownKnob Try.prog.godebug = none := by kernel_rfl
theorem laidOut : laidOutB Try.prog = true := by kernel_rfl

set_option maxRecDepth 100000 in
theorem lifted (os : Os) (started : os.Started) (H : Type) (enc : TypeId × Value → H) :
    ReturnsInHanded {} Try.checked os 8 .any (Rows.fnExactMeanWaitSpec.pre6 enc Try.prog Try.f8 Rows.fnExactMeanWaitRow.domain false) (Rows.fnExactMeanWaitSpec.post enc Try.prog Try.f8 false true false false) := by
  refine returnsInHanded_of_change (C := Try.checked) own started (by as_aux_lemma => kernel_rfl) Try.func8
    (ChangeSpec.witness6 (enc := enc) (C := Try.checked) false ⟨#[], #[.float .f32 0, .int .i64 0], []⟩ 8 (by as_aux_lemma => kernel_rfl) (by as_aux_lemma => kernel_rfl) (by as_aux_lemma => kernel_rfl) (by as_aux_lemma => kernel_rfl)) ?_
  intro W base args ds gs before hval0 hW hcnd _
  have hval : ∀ (j : Nat) t v, Try.f8.params[j]? = some t → args[j]? = some v → Value.okWide Try.prog W .any base t v := hval0
  have hW' := hW
  obtain ⟨p, q, hA0, hV, rfl, hfz, hnd⟩ := hW
  have hA : DataW.TrodAll enc Try.prog W 0 (fun _ => true) true Try.f8.params.toList args.toList ds p := hA0
  rw [Try.params8] at hA hval
  obtain ⟨v0, vs0, d0, ds0, p0, q0, hargs, rfl, rfl, h0, r0⟩ := trodAll_cons hA
  obtain ⟨v1, vs1, d1, ds1, p1, q1, rfl, rfl, rfl, h1, r1⟩ := trodAll_cons r0
  obtain ⟨rfl, rfl, rfl⟩ := trodAll_nil r1
  obtain rfl : args = #[v0, v1] := by cases args; simp_all
  obtain ⟨rfl, rfl⟩ := trodVars_none hV
  have k0 := h0
  have lt0 : ∀ x ∈ p0, x.block < W.heap.size := by obtain ⟨m, hm⟩ := k0; exact DataW.trod_lt m _ _ _ hm
  obtain ⟨a0, rfl, _, _, w0⟩ := open_float Try.underlying41 (hval 0 41 v0 rfl rfl) h0
  obtain ⟨a1, rfl, rfl, rfl, w1⟩ := open_int Try.underlying2 (hval 1 2 v1 rfl rfl) h1
  clear hA0 hval0
  refine (walk W a0 w0 a1 (i64_of_wf w1)).mono fun e W' ⟨he, bel⟩ => ?_
  subst he
  exact ⟨_, rfl, _, _, _, [], _, [], hW', trodAll_mk1 (shut_bool Try.underlying4 _), (trodAll_cons_mk (Below.trod laidOut (by as_aux_lemma => kernel_rfl) (of_decide_eq_true (by as_aux_lemma => kernel_rfl)) k0 bel lt0) (trodAll_cons_mk (shut_int Try.underlying2 w1) (trodAll_mk0))), rfl, bel.frame _, fun h => by cases h⟩

/-- The given statement. -/
theorem proved : Rows.FnExactMeanWaitSaid :=
  OpenClaim.holds_of_wide 8 Try.f8 rfl rfl rfl rfl rfl rfl rfl ⟨rfl, rfl, rfl, rfl, rfl⟩ rfl rfl rfl rfl rfl (by kernel_rfl) Try.func8 (by kernel_rfl)
    (of_decide_eq_true (by kernel_rfl)) (by unfold Func.isWrapper; first | (rw [if_pos (by decide +kernel)]; kernel_rfl) | (rw [if_neg (by decide +kernel)]; exact ⟨rfl, rfl⟩))
    (fun os started H enc _ => lifted os started H enc)
#print axioms proved

end Go.Proofs.Ytcfkcahibkpjhaa.lFnExactMeanWait
