/- Whatever events, rules, period and times are given, the program's KeepsRules and the reference's return the same bools, and the law's own copies are left as they were: the law returns true. No condition. -/
import Derived.Test.YtkcfbplfhakbcaaRows
import Derived.Test.YtkcfbplfhakbcaaWaits
import Derived.Test.YtkcfbplfhakbcaaQSlice
import Derived.Test.YtkcfbplfhakbcaaOpen
namespace Go.Proofs.Ytkcfbplfhakbcaa.lFnExactKeepsRules
open Go.ChangeShapes Go.WideShapes Go.ChangeAt Go.RowKit Go.Proofs.Ytkcfbplfhakbcaa Plain
set_option linter.unusedVariables false
set_option linter.unusedSimpArgs false
attribute [local go_sem ↓] Go.wp_at_zero Go.wp_at_succ

/-- are all rules kept? and is it known? -/
def M (ev : Int) (l : List Q4) (p : Int) (ts : List Int) : Bool × Bool :=
  if rulesB ev p l && (decide ((ts.length : Int) = ev) && ts.all (inR · 0 (p - 1))) then (keepsB l p ts, true) else (false, false)
theorem ok_of {ev p : Int} {l : List Q4} {ts : List Int} (h1 : rulesB ev p l = true) (h2 : (ts.length : Int) = ev) (h3 : ts.all (inR · 0 (p - 1)) = true) : TabOk l p ts := by
  simp only [rulesB, Bool.and_eq_true, inR_iff, decide_eq_true_eq, List.all_eq_true] at h1 h3
  obtain ⟨e1, e2, e3, e4⟩ := h1
  refine ⟨fun k q hq => ?_, fun i hi => ?_, e2.1, e2.2, by omega⟩
  · rw [h2]; exact e4 q (List.mem_of_getElem? hq)
  · have := h3 ts[i] (List.getElem_mem _)
    rw [List.getD_eq_getElem?_getD, List.getElem?_eq_getElem hi]
    exact this
theorem table_of {ev p : Int} {l : List Q4} {ts : List Int} (h1 : rulesB ev p l = true) (h2 : (ts.length : Int) = ev) : tableB ts p = ts.all (inR · 0 (p - 1)) := by
  simp only [rulesB, Bool.and_eq_true, inR_iff] at h1
  obtain ⟨e1, e2, _⟩ := h1
  rw [tableB, inR_iff.2 e2, manyIn, decide_eq_true (show (1 : Int) ≤ ts.length by omega), decide_eq_true (show (ts.length : Int) ≤ 12 by omega)]
  simp

set_option maxHeartbeats 1000000 in
set_option maxRecDepth 100000 in
theorem impl_any (w : World) (ev : Int) (ie : I64 ev) (v : Value) (l : List Q4) (_i : ∀ y ∈ l, y.I64) (_b : l.length ≤ 1048576) (s : Sl w 4 v l.length (q4s l)) (p : Int) (ip : I64 p) (u : Value) (ts : List Int) (_j : ∀ z ∈ ts, I64 z) (_c : ts.length ≤ 1048576) (t : Sl w 1 u ts.length (ts.map vi)) :
    Calls Try.prog 45 #[.int .i64 ev, v, .int .i64 p, u] w fun r w' => r = .returned (.tuple #[.bool (M ev l p ts).1, .bool (M ev l p ts).2]) ∧ Below w.heap.size w w' := by
  have hA := hd (AreRules_any ev v l p w s)
  have hT := fun (W : World) h => areTableTimes_any u ts p W h
  have hW := hd (fun (W : World) hs ht hok => waits_any v u l ts p W hs ht hok)
  obtain ⟨A, cap, hu, _, hr⟩ := id t
  have S := hd s
  have T := hd t
  have hm := hr.2.1
  unfold maxLen at hm
  clear _i _j s t hr ip ie
  subst hu
  cases h1 : rulesB ev p l with
  | false =>
    have H := hd (show M ev l p ts = (false, false) by rw [M, h1]; rfl)
    rw [h1] at hA
    clear h1 hT
    go_enter Try.func45, Try.ntmps45
    go_wp2_with (go_at_call 101; refine hA.out.mono ?_; rintro e w' ⟨rfl, hb⟩)
    go_ret2
    rw [H.out]
    exact ⟨rfl, hb⟩
  | true =>
  rw [h1] at hA
  by_cases h2 : (ts.length : Int) = ev
  rotate_left
  · have H := hd (show M ev l p ts = (false, false) by rw [M, decide_eq_false h2, Bool.false_and, Bool.and_false]; rfl)
    have h2' : ((ts.length : Int) != ev) = true := bne_iff_ne.2 h2
    clear h1 hT h2
    go_enter Try.func45, Try.ntmps45
    go_wp2_with (go_at_call 101; refine hA.out.mono ?_; rintro e w' ⟨rfl, hb⟩)
    go_ret2
    rw [H.out]
    exact ⟨rfl, hb⟩
  have hTab := table_of h1 h2
  have h2' : ((ts.length : Int) != ev) = false := bne_eq_false_iff_eq.2 h2
  cases h3 : ts.all (inR · 0 (p - 1)) with
  | false =>
    have H := hd (show M ev l p ts = (false, false) by rw [M, h3, Bool.and_false, Bool.and_false]; rfl)
    rw [hTab, h3] at hT
    have HT := hd hT
    clear h1 h2 h3 hTab hT
    go_enter Try.func45, Try.ntmps45
    go_wp2_with (first | (go_at_call 101; refine hA.out.mono ?_; rintro e w1 ⟨rfl, hb⟩) | (go_at_call 102; refine (HT.out _ (T.out.below hb)).mono ?_; rintro e w' ⟨rfl, rfl⟩))
    go_ret2
    rw [H.out]
    exact ⟨rfl, hb⟩
  | true =>
    have H := hd (show M ev l p ts = (keepsB l p ts, true) by rw [M, h1, decide_eq_true h2, h3]; rfl)
    have Hok := hd (ok_of h1 h2 h3)
    rw [hTab, h3] at hT
    have HT := hd hT
    clear h1 h2 h3 hTab hT
    go_enter Try.func45, Try.ntmps45
    go_wp2_with (first
      | (go_at_call 101; refine hA.out.mono ?_; rintro e w1 ⟨rfl, hb⟩)
      | (go_at_call 102; refine (HT.out _ (T.out.below hb)).mono ?_; rintro e w' ⟨rfl, rfl⟩)
      | (go_at_call 103; refine (hW.out _ (S.out.below hb) (T.out.below hb) Hok.out).mono ?_; rintro e w2 ⟨rfl, hb2⟩))
    go_ret2
    rw [H.out, ← waitsM_snd]
    exact ⟨rfl, below_tr hb2 hb⟩

set_option maxHeartbeats 1000000 in
set_option maxRecDepth 100000 in
theorem spec_any (w : World) (ev : Int) (ie : I64 ev) (v : Value) (l : List Q4) (_i : ∀ y ∈ l, y.I64) (_b : l.length ≤ 1048576) (s : Sl w 4 v l.length (q4s l)) (p : Int) (ip : I64 p) (u : Value) (ts : List Int) (_j : ∀ z ∈ ts, I64 z) (_c : ts.length ≤ 1048576) (t : Sl w 1 u ts.length (ts.map vi)) :
    Calls Try.prog 43 #[.int .i64 ev, v, .int .i64 p, u] w fun r w' => r = .returned (.tuple #[.bool (M ev l p ts).1, .bool (M ev l p ts).2]) ∧ Below w.heap.size w w' := by
  have hA := hd (l05Rules_any ev v l p w s)
  have hW := hd (fun (W : World) hs ht hok => l05Keeps_any v u l ts p W hs ht hok)
  obtain ⟨A, cap, hu, _, hr⟩ := id t
  have S := hd s
  have T := hd t
  have hm := hr.2.1
  unfold maxLen at hm
  clear _i _j s t hr ip ie
  subst hu
  cases h1 : rulesB ev p l with
  | false =>
    have H := hd (show M ev l p ts = (false, false) by rw [M, h1]; rfl)
    rw [h1] at hA
    clear h1
    go_enter Try.func43, Try.ntmps43
    go_wp2_with (go_at_call 97; refine hA.out.mono ?_; rintro e w' ⟨rfl, hb⟩)
    go_ret2
    rw [H.out]
    exact ⟨rfl, hb⟩
  | true =>
  rw [h1] at hA
  by_cases h2 : (ts.length : Int) = ev
  rotate_left
  · have H := hd (show M ev l p ts = (false, false) by rw [M, decide_eq_false h2, Bool.false_and, Bool.and_false]; rfl)
    have h2' : ((ts.length : Int) != ev) = true := bne_iff_ne.2 h2
    clear h1 h2
    go_enter Try.func43, Try.ntmps43
    go_wp2_with (go_at_call 97; refine hA.out.mono ?_; rintro e w' ⟨rfl, hb⟩)
    go_ret2
    rw [H.out]
    exact ⟨rfl, hb⟩
  have h2' : ((ts.length : Int) != ev) = false := bne_eq_false_iff_eq.2 h2
  have hp : 1 ≤ p ∧ p ≤ 60 := by
    simp only [rulesB, Bool.and_eq_true, inR_iff] at h1
    exact h1.2.1
  have hT := fun (W : World) h => l05Times_any (.slice A ts.length cap) ts p W h hp.1 hp.2
  cases h3 : ts.all (inR · 0 (p - 1)) with
  | false =>
    have H := hd (show M ev l p ts = (false, false) by rw [M, h3, Bool.and_false, Bool.and_false]; rfl)
    rw [h3] at hT
    have HT := hd hT
    clear h1 h2 h3 hT
    go_enter Try.func43, Try.ntmps43
    go_wp2_with (first | (go_at_call 97; refine hA.out.mono ?_; rintro e w1 ⟨rfl, hb⟩) | (go_at_call 98; refine (HT.out _ (T.out.below hb)).mono ?_; rintro e w' ⟨rfl, rfl⟩))
    go_ret2
    rw [H.out]
    exact ⟨rfl, hb⟩
  | true =>
    have H := hd (show M ev l p ts = (keepsB l p ts, true) by rw [M, h1, decide_eq_true h2, h3]; rfl)
    have Hok := hd (ok_of h1 h2 h3)
    rw [h3] at hT
    have HT := hd hT
    clear h1 h2 h3 hT
    go_enter Try.func43, Try.ntmps43
    go_wp2_with (first
      | (go_at_call 97; refine hA.out.mono ?_; rintro e w1 ⟨rfl, hb⟩)
      | (go_at_call 98; refine (HT.out _ (T.out.below hb)).mono ?_; rintro e w' ⟨rfl, rfl⟩)
      | (go_at_call 99; refine (hW.out _ (S.out.below hb) (T.out.below hb) Hok.out).mono ?_; rintro e w2 ⟨rfl, hb2⟩))
    go_ret2
    rw [H.out]
    exact ⟨rfl, below_tr hb2 hb⟩

set_option maxHeartbeats 2000000 in
set_option maxRecDepth 100000 in
theorem walk (w : World) (a0 : Int) (i0 : I64 a0) (v1 : Value) (x1 : List Q4) (i1 : ∀ x ∈ x1, x.I64) (s1 : Sl w 4 v1 x1.length (q4s x1)) (a2 : Int) (i2 : I64 a2) (v3 : Value) (x3 : List Int) (i3 : ∀ x ∈ x3, I64 x) (s3 : Sl w 1 v3 x3.length (x3.map vi)) :
    Calls Try.prog 10 #[.int .i64 a0, v1, .int .i64 a2, v3] w fun e w' => e = .returned (.bool true) ∧ Below w.heap.size w w' := by
  obtain ⟨A1, cap1, hw1, _, hr1⟩ := id s1
  have hv1 := hd hw1; clear hw1
  obtain ⟨A3, cap3, hw3, _, hr3⟩ := id s3
  have hv3 := hd hw3; clear hw3
  have hm1 := hr1.2.1
  have hm3 := hr3.2.1
  by_cases b3 : x3.length ≤ 1048576
  rotate_left
  · have e3 := hv3.out; subst e3
    unfold maxLen at hm3
    have hx' : ¬ ((x3.length : Int) ≤ 1048576) := by omega
    go_enter Try.func10, Try.ntmps10
    go_wp2
    go_ret
    exact ⟨rfl, Below.refl _ _⟩
  have hz1 := hd (szRuleS_any v1 x1.length (1048576) w ⟨A1, cap1, hv1.out, hm1⟩ (by omega) (by omega))
  by_cases c1 : (1048576 : Int) < x1.length
  · rw [if_pos c1] at hz1
    have e3 := hv3.out; subst e3
    have hx3 : (x3.length : Int) ≤ 1048576 := by omega
    go_enter Try.func10, Try.ntmps10
    go_wp2_with fail
    refine hz1.out.mono ?_; rintro e w' ⟨rfl, rfl⟩
    go_wp2
    go_ret
    exact ⟨rfl, Below.refl _ _⟩
  rw [if_neg c1] at hz1
  have l1 : (0 : Int) ≤ 1048576 - x1.length := by omega
  have b1 : x1.length ≤ 1048576 := by omega
  have hx3 : (x3.length : Int) ≤ 1048576 := by omega
  have z1 := size_le b1
  have z3 := size_le b3
  have hB := Below.refl w.heap.size w
  clear hr1 hm1
  clear hr3 hm3
  clear hv1
  have e3 := hv3.out; subst e3; clear hv3
  go_enter Try.func10, Try.ntmps10
  go_wp2_with fail
  refine hz1.out.mono ?_; rintro e w' ⟨rfl, rfl⟩
  clear hz1
  go_wp2_with fail
  refine (toRuleS_any _ x1 _ (s1.below hB) b1).mono ?_; rintro e w1 ⟨s1_, rfl, ho_s1_, hb⟩
  replace ho_s1_ := own_mono ho_s1_ hB.size
  replace hB := below_tr hb hB
  clear hb
  go_wp2_with fail
  refine (toInt64S_any _ x3 _ (s3.below hB) b3).mono ?_; rintro e w2 ⟨s3_, rfl, ho_s3_, hb⟩
  have d_s1__s3_ := dj_new ho_s1_ ho_s3_
  replace ho_s1_ := own_below ho_s1_ hb
  replace ho_s3_ := own_mono ho_s3_ hB.size
  replace hB := below_tr hb hB
  clear hb
  go_wp2_with fail
  refine (spec_any _ a0 i0 _ x1 i1 b1 (own_sl ho_s1_ z1) a2 i2 _ x3 i3 b3 (own_sl ho_s3_ z3)).mono ?_; rintro e w3 ⟨rfl, hb⟩
  replace ho_s1_ := own_below ho_s1_ hb
  replace ho_s3_ := own_below ho_s3_ hb
  replace hB := below_tr hb hB
  clear hb
  clear ho_s1_ d_s1__s3_
  clear ho_s3_
  go_wp2_with fail
  refine (toRuleS_any _ x1 _ (s1.below hB) b1).mono ?_; rintro e w4 ⟨x1_, rfl, ho_x1_, hb⟩
  replace ho_x1_ := own_mono ho_x1_ hB.size
  replace hB := below_tr hb hB
  clear hb
  go_wp2_with fail
  refine (toInt64S_any _ x3 _ (s3.below hB) b3).mono ?_; rintro e w5 ⟨x3_, rfl, ho_x3_, hb⟩
  have d_x1__x3_ := dj_new ho_x1_ ho_x3_
  replace ho_x1_ := own_below ho_x1_ hb
  replace ho_x3_ := own_mono ho_x3_ hB.size
  replace hB := below_tr hb hB
  clear hb
  go_wp2_with fail
  refine (impl_any _ a0 i0 _ x1 i1 b1 (own_sl ho_x1_ z1) a2 i2 _ x3 i3 b3 (own_sl ho_x3_ z3)).mono ?_; rintro e w6 ⟨rfl, hb⟩
  replace ho_x1_ := own_below ho_x1_ hb
  replace ho_x3_ := own_below ho_x3_ hb
  replace hB := below_tr hb hB
  clear hb
  go_wp2_with fail
  refine (toRuleS_any _ x1 _ (s1.below hB) b1).mono ?_; rintro e w7 ⟨c1_, rfl, ho_c1_, hb⟩
  have d_x1__c1_ := dj_new ho_x1_ ho_c1_
  have d_x3__c1_ := dj_new ho_x3_ ho_c1_
  replace ho_x1_ := own_below ho_x1_ hb
  replace ho_x3_ := own_below ho_x3_ hb
  replace ho_c1_ := own_mono ho_c1_ hB.size
  replace hB := below_tr hb hB
  clear hb
  go_wp2_with fail
  refine (eqRuleS_any _ _ x1 x1 _ (own_sl ho_x1_ z1) (own_sl ho_c1_ z1)).mono ?_; rintro e w8 ⟨rfl, hb⟩
  replace ho_x1_ := own_below ho_x1_ hb
  replace ho_x3_ := own_below ho_x3_ hb
  replace ho_c1_ := own_below ho_c1_ hb
  replace hB := below_tr hb hB
  clear hb
  clear ho_c1_ d_x1__c1_ d_x3__c1_
  go_wp2_with fail
  refine (toInt64S_any _ x3 _ (s3.below hB) b3).mono ?_; rintro e w9 ⟨c3_, rfl, ho_c3_, hb⟩
  have d_x1__c3_ := dj_new ho_x1_ ho_c3_
  have d_x3__c3_ := dj_new ho_x3_ ho_c3_
  replace ho_x1_ := own_below ho_x1_ hb
  replace ho_x3_ := own_below ho_x3_ hb
  replace ho_c3_ := own_mono ho_c3_ hB.size
  replace hB := below_tr hb hB
  clear hb
  go_wp2_with fail
  refine (eqInt64S_b _ _ x3 x3 _ (own_sl ho_x3_ z3) (own_sl ho_c3_ z3)).mono ?_; rintro e w10 ⟨rfl, hb⟩
  replace ho_x1_ := own_below ho_x1_ hb
  replace ho_x3_ := own_below ho_x3_ hb
  replace ho_c3_ := own_below ho_c3_ hb
  replace hB := below_tr hb hB
  clear hb
  clear ho_c3_ d_x1__c3_ d_x3__c3_
  go_wp2_with fail
  go_ret
  exact ⟨rfl, hB⟩

theorem own : ownKnob Try.prog.godebug = none := by kernel_rfl
theorem laidOut : laidOutB Try.prog = true := by kernel_rfl

set_option maxRecDepth 100000 in
theorem lifted (os : Os) (started : os.Started) (H : Type) (enc : TypeId × Value → H) :
    ReturnsInHanded {} Try.checked os 10 .any (Rows.fnExactKeepsRulesSpec.pre6 enc Try.prog Try.f10 Rows.fnExactKeepsRulesRow.domain false) (Rows.fnExactKeepsRulesSpec.post enc Try.prog Try.f10 false true false false) := by
  refine returnsInHanded_of_change (C := Try.checked) own started (by as_aux_lemma => kernel_rfl) Try.func10
    (ChangeSpec.witness6 (enc := enc) (C := Try.checked) false ⟨#[], #[.int .i64 0, .slice none 0 0, .int .i64 0, .slice none 0 0], []⟩ 8 (by as_aux_lemma => kernel_rfl) (by as_aux_lemma => kernel_rfl) (by as_aux_lemma => kernel_rfl) (by as_aux_lemma => kernel_rfl)) ?_
  intro W base args ds gs before hval0 hW hcnd _
  have hval : ∀ (j : Nat) t v, Try.f10.params[j]? = some t → args[j]? = some v → Value.okWide Try.prog W .any base t v := hval0
  have hW' := hW
  obtain ⟨p, q, hA0, hV, rfl, hfz, hnd⟩ := hW
  have hA : DataW.TrodAll enc Try.prog W 0 (fun _ => true) true Try.f10.params.toList args.toList ds p := hA0
  rw [Try.params10] at hA hval
  obtain ⟨v0, vs0, d0, ds0, p0, q0, hargs, rfl, rfl, h0, r0⟩ := trodAll_cons hA
  obtain ⟨v1, vs1, d1, ds1, p1, q1, rfl, rfl, rfl, h1, r1⟩ := trodAll_cons r0
  obtain ⟨v2, vs2, d2, ds2, p2, q2, rfl, rfl, rfl, h2, r2⟩ := trodAll_cons r1
  obtain ⟨v3, vs3, d3, ds3, p3, q3, rfl, rfl, rfl, h3, r3⟩ := trodAll_cons r2
  obtain ⟨rfl, rfl, rfl⟩ := trodAll_nil r3
  obtain rfl : args = #[v0, v1, v2, v3] := by cases args; simp_all
  obtain ⟨rfl, rfl⟩ := trodVars_none hV
  obtain ⟨a0, rfl, rfl, rfl, w0⟩ := open_int Try.underlying2 (hval 0 2 v0 rfl rfl) h0
  have k1 := h1
  have lt1 : ∀ x ∈ p1, x.block < W.heap.size := by obtain ⟨m, hm⟩ := k1; exact DataW.trod_lt m _ _ _ hm
  obtain ⟨s1, len1, cap1, rfl⟩ := okWide_slice Try.underlying57 (hval 1 57 v1 rfl rfl)
  obtain ⟨x1, _, i1, w1⟩ := arg_q4 Try.underlying57 Try.underlying130 Try.underlying2 rfl (by as_aux_lemma => kernel_rfl) (by as_aux_lemma => kernel_rfl) h1
  obtain ⟨a2, rfl, rfl, rfl, w2⟩ := open_int Try.underlying2 (hval 2 2 v2 rfl rfl) h2
  have k3 := h3
  have lt3 : ∀ x ∈ p3, x.block < W.heap.size := by obtain ⟨m, hm⟩ := k3; exact DataW.trod_lt m _ _ _ hm
  obtain ⟨s3, len3, cap3, rfl⟩ := okWide_slice Try.underlying22 (hval 3 22 v3 rfl rfl)
  obtain ⟨x3, _, i3, w3⟩ := arg_ints Try.underlying22 Try.underlying2 (by as_aux_lemma => kernel_rfl) h3
  clear hA0 hval0
  refine (walk W a0 (i64_of_wf w0) _ x1 i1 w1 a2 (i64_of_wf w2) _ x3 i3 w3).mono fun e W' ⟨he, bel⟩ => ?_
  subst he
  exact ⟨_, rfl, _, _, _, [], _, [], hW', trodAll_mk1 (shut_bool Try.underlying4 _), (trodAll_cons_mk (shut_int Try.underlying2 w0) (trodAll_cons_mk (Below.trod laidOut (by as_aux_lemma => kernel_rfl) (of_decide_eq_true (by as_aux_lemma => kernel_rfl)) k1 bel lt1) (trodAll_cons_mk (shut_int Try.underlying2 w2) (trodAll_cons_mk (Below.trod laidOut (by as_aux_lemma => kernel_rfl) (of_decide_eq_true (by as_aux_lemma => kernel_rfl)) k3 bel lt3) (trodAll_mk0))))), rfl, bel.frame _, fun h => by cases h⟩

/-- The given statement. -/
theorem proved : Rows.FnExactKeepsRulesSaid :=
  OpenClaim.holds_of_wide 10 Try.f10 rfl rfl rfl rfl rfl rfl rfl ⟨rfl, rfl, rfl, rfl, rfl⟩ rfl rfl rfl rfl rfl (by kernel_rfl) Try.func10 (by kernel_rfl)
    (of_decide_eq_true (by kernel_rfl)) (by unfold Func.isWrapper; first | (rw [if_pos (by decide +kernel)]; kernel_rfl) | (rw [if_neg (by decide +kernel)]; exact ⟨rfl, rfl⟩))
    (fun os started H enc _ => lifted os started H enc)
#print axioms proved

end Go.Proofs.Ytkcfbplfhakbcaa.lFnExactKeepsRules
