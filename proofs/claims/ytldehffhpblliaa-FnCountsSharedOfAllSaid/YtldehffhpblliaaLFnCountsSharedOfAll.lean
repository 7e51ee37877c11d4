/- Whatever rules of shifts and numbers of workers are given, the program's CountsShared returns what the reference's does, and the same for any number of workers: the law returns true. No condition. -/
import Derived.Test.YtldehffhpblliaaRows
import Derived.Test.YtldehffhpblliaaShared5
import Derived.Test.YtldehffhpblliaaOpen5
import Derived.Sort.AtCall
namespace Go.Proofs.Ytldehffhpblliaa.lFnCountsSharedOfAll
open Go.ChangeShapes Go.WideShapes Go.ChangeAt Go.RowKit Go.Proofs.Ytldehffhpblliaa Plain
set_option linter.unusedVariables false
set_option linter.unusedSimpArgs false
attribute [local go_sem ↓] Go.wp_at_zero Go.wp_at_succ

theorem shared_any {wk wk' : Int} {ms : List SR} (h1 : inR wk 1 8 = true) (h2 : inR wk' 1 8 = true) : MSh5 wk' ms = MSh5 wk ms := by
  unfold MSh5 sh5Ok
  rw [h1, h2]

set_option maxHeartbeats 2000000 in
set_option maxRecDepth 100000 in
theorem walk (w : World) (v : Value) (ms : List SR) (hq : ∀ x ∈ ms, x.I64) (s : Sl w 5 v ms.length (s5s ms)) (wk : Int) (i2 : I64 wk) (ha : Int) (i3 : I64 ha) :
    Calls Try.prog 5 #[v, .int .i64 wk, .int .i64 ha] w fun e w' => e = .returned (.bool true) ∧ Below w.heap.size w w' := by
  have s0 := s
  obtain ⟨A, cap, rfl, hcap, hr⟩ := s0
  have hm0 := hr.2.1
  unfold maxLen at hm0
  by_cases hbig : (10000 : Int) < (ms.length : Int)
  · go_enter Try.func5, Try.ntmps5
    go_wp2
    go_ret
    exact ⟨rfl, Below.refl _ _⟩
  · have I := hd (fun w1 (k : Int) hb => CountsShared_any w1 k (.slice A ms.length cap) ms (s.below hb))
    have S := hd (fun w1 (k : Int) hb => specCountsShared_any w1 k (.slice A ms.length cap) ms (s.below hb))
    have L1 := sh5_len (wk := wk) (ms := ms)
    have L2 := sh5_len (wk := ha) (ms := ms)
    have SA := hd (fun h1 h2 => shared_any (wk := wk) (wk' := ha) (ms := ms) h1 h2)
    clear s hq hr
    generalize hx : MSh5 wk ms = X at *
    generalize hy : MSh5 ha ms = Y at *
    have Hx := hd hx; have Hy := hd hy
    clear hx hy
    obtain ⟨l1, b1⟩ := X
    obtain ⟨l2, b2⟩ := Y
    simp only at L1 L2
    go_enter Try.func5, Try.ntmps5
    go_wp2_with fail
    have C1 := I.out w wk (Below.refl _ _)
    rw [Hx.out] at C1
    refine C1.mono ?_
    rintro e w1 ⟨x0, rfl, ho1, hb1⟩
    go_wp2_with fail
    have C2 := I.out w1 ha hb1
    rw [Hy.out] at C2
    refine C2.mono ?_
    rintro e w2 ⟨y0, rfl, ho2, hb2⟩
    have hB2 := below_tr hb2 hb1
    go_wp2_with fail
    have C3 := S.out w2 wk hB2
    rw [Hx.out] at C3
    refine C3.mono ?_
    rintro e w3 ⟨z0, rfl, ho3, hb3⟩
    have hB3 := below_tr hb3 hB2
    have X0 := own_below (own_below ho1 hb2) hb3
    have Y0 := own_below ho2 hb3
    have hsl1 : Sl w3 1 x0 l1.length (l1.map vi) := own_sl X0 (size_le (by omega))
    have hsl2 : Sl w3 1 y0 l2.length (l2.map vi) := own_sl Y0 (size_le (by omega))
    have hsl3 : Sl w3 1 z0 l1.length (l1.map vi) := own_sl ho3 (size_le (by omega))
    have E1 := hd (fun w4 hb => sameInts_b x0 z0 l1 l1 w4 (hsl1.below hb) (hsl3.below hb))
    have E2 := hd (fun w4 hb => sameInts_b x0 y0 l1 l2 w4 (hsl1.below hb) (hsl2.below hb))
    have SAF := hd (fun h1 h2 => (show (l2, b2) = (l1, b1) from SA.out h1 h2))
    have HB3 := hd hB3
    clear C1 C2 C3 ho1 ho2 ho3 hb1 hb2 hb3 hB2 hB3 X0 Y0 hsl1 hsl2 hsl3 I S SA
    cases hwk : inR wk 1 8 with
    | false =>
      rcases inR_no.1 hwk with hw | hw
      · clear hwk SAF
        cases b1 with
        | false =>
          simp only [beq_self_eq_true] at E1
          go_wp2_with (first | (go_at_call_has 22 z0; refine (E1.out _ (Below.refl _ _)).mono ?_; rintro e w4 ⟨rfl, hb4⟩) | (go_at_call_has 22 y0; refine (E2.out _ hb4).mono ?_; rintro e w5 ⟨rfl, hb5⟩))
          go_ret
          exact ⟨by first | rfl | simp, by first | exact HB3.out | exact below_tr hb4 HB3.out | exact below_tr hb5 (below_tr hb4 HB3.out) | exact below_tr hb5 HB3.out⟩
        | true =>
          simp only [beq_self_eq_true] at E1
          go_wp2_with (first | (go_at_call_has 22 z0; refine (E1.out _ (Below.refl _ _)).mono ?_; rintro e w4 ⟨rfl, hb4⟩) | (go_at_call_has 22 y0; refine (E2.out _ hb4).mono ?_; rintro e w5 ⟨rfl, hb5⟩))
          go_ret
          exact ⟨by first | rfl | simp, by first | exact HB3.out | exact below_tr hb4 HB3.out | exact below_tr hb5 (below_tr hb4 HB3.out) | exact below_tr hb5 HB3.out⟩
      · have hw1 : ¬ wk < 1 := by omega
        clear hwk SAF
        cases b1 with
        | false =>
          simp only [beq_self_eq_true] at E1
          go_wp2_with (first | (go_at_call_has 22 z0; refine (E1.out _ (Below.refl _ _)).mono ?_; rintro e w4 ⟨rfl, hb4⟩) | (go_at_call_has 22 y0; refine (E2.out _ hb4).mono ?_; rintro e w5 ⟨rfl, hb5⟩))
          go_ret
          exact ⟨by first | rfl | simp, by first | exact HB3.out | exact below_tr hb4 HB3.out | exact below_tr hb5 (below_tr hb4 HB3.out) | exact below_tr hb5 HB3.out⟩
        | true =>
          simp only [beq_self_eq_true] at E1
          go_wp2_with (first | (go_at_call_has 22 z0; refine (E1.out _ (Below.refl _ _)).mono ?_; rintro e w4 ⟨rfl, hb4⟩) | (go_at_call_has 22 y0; refine (E2.out _ hb4).mono ?_; rintro e w5 ⟨rfl, hb5⟩))
          go_ret
          exact ⟨by first | rfl | simp, by first | exact HB3.out | exact below_tr hb4 HB3.out | exact below_tr hb5 (below_tr hb4 HB3.out) | exact below_tr hb5 HB3.out⟩
    | true =>
      obtain ⟨g1, g2⟩ := inR_iff.1 hwk
      cases hha : inR ha 1 8 with
      | false =>
        rcases inR_no.1 hha with hw | hw
        · clear hwk hha SAF
          cases b1 with
          | false =>
            simp only [beq_self_eq_true] at E1
            go_wp2_with (first | (go_at_call_has 22 z0; refine (E1.out _ (Below.refl _ _)).mono ?_; rintro e w4 ⟨rfl, hb4⟩) | (go_at_call_has 22 y0; refine (E2.out _ hb4).mono ?_; rintro e w5 ⟨rfl, hb5⟩))
            go_ret
            exact ⟨by first | rfl | simp, by first | exact HB3.out | exact below_tr hb4 HB3.out | exact below_tr hb5 (below_tr hb4 HB3.out) | exact below_tr hb5 HB3.out⟩
          | true =>
            simp only [beq_self_eq_true] at E1
            go_wp2_with (first | (go_at_call_has 22 z0; refine (E1.out _ (Below.refl _ _)).mono ?_; rintro e w4 ⟨rfl, hb4⟩) | (go_at_call_has 22 y0; refine (E2.out _ hb4).mono ?_; rintro e w5 ⟨rfl, hb5⟩))
            go_ret
            exact ⟨by first | rfl | simp, by first | exact HB3.out | exact below_tr hb4 HB3.out | exact below_tr hb5 (below_tr hb4 HB3.out) | exact below_tr hb5 HB3.out⟩
        · have hw1 : ¬ ha < 1 := by omega
          clear hwk hha SAF
          cases b1 with
          | false =>
            simp only [beq_self_eq_true] at E1
            go_wp2_with (first | (go_at_call_has 22 z0; refine (E1.out _ (Below.refl _ _)).mono ?_; rintro e w4 ⟨rfl, hb4⟩) | (go_at_call_has 22 y0; refine (E2.out _ hb4).mono ?_; rintro e w5 ⟨rfl, hb5⟩))
            go_ret
            exact ⟨by first | rfl | simp, by first | exact HB3.out | exact below_tr hb4 HB3.out | exact below_tr hb5 (below_tr hb4 HB3.out) | exact below_tr hb5 HB3.out⟩
          | true =>
            simp only [beq_self_eq_true] at E1
            go_wp2_with (first | (go_at_call_has 22 z0; refine (E1.out _ (Below.refl _ _)).mono ?_; rintro e w4 ⟨rfl, hb4⟩) | (go_at_call_has 22 y0; refine (E2.out _ hb4).mono ?_; rintro e w5 ⟨rfl, hb5⟩))
            go_ret
            exact ⟨by first | rfl | simp, by first | exact HB3.out | exact below_tr hb4 HB3.out | exact below_tr hb5 (below_tr hb4 HB3.out) | exact below_tr hb5 HB3.out⟩
      | true =>
        obtain ⟨g3, g4⟩ := inR_iff.1 hha
        have e := SAF.out hwk hha
        obtain ⟨rfl, rfl⟩ := Prod.mk.inj e
        clear hwk hha e SAF
        simp only [beq_self_eq_true] at E2
        cases b2 with
        | false =>
          simp only [beq_self_eq_true] at E1
          go_wp2_with (first | (go_at_call_has 22 z0; refine (E1.out _ (Below.refl _ _)).mono ?_; rintro e w4 ⟨rfl, hb4⟩) | (go_at_call_has 22 y0; refine (E2.out _ hb4).mono ?_; rintro e w5 ⟨rfl, hb5⟩))
          go_ret
          exact ⟨by first | rfl | simp, by first | exact HB3.out | exact below_tr hb4 HB3.out | exact below_tr hb5 (below_tr hb4 HB3.out) | exact below_tr hb5 HB3.out⟩
        | true =>
          simp only [beq_self_eq_true] at E1
          go_wp2_with (first | (go_at_call_has 22 z0; refine (E1.out _ (Below.refl _ _)).mono ?_; rintro e w4 ⟨rfl, hb4⟩) | (go_at_call_has 22 y0; refine (E2.out _ hb4).mono ?_; rintro e w5 ⟨rfl, hb5⟩))
          go_ret
          exact ⟨by first | rfl | simp, by first | exact HB3.out | exact below_tr hb4 HB3.out | exact below_tr hb5 (below_tr hb4 HB3.out) | exact below_tr hb5 HB3.out⟩

theorem own : ownKnob Try.prog.godebug = none := by kernel_rfl
theorem laidOut : laidOutB Try.prog = true := by kernel_rfl

set_option maxRecDepth 100000 in
theorem lifted (os : Os) (started : os.Started) (H : Type) (enc : TypeId × Value → H) :
    ReturnsInHanded {} Try.checked os 5 .any (Rows.fnCountsSharedOfAllSpec.pre6 enc Try.prog Try.f5 Rows.fnCountsSharedOfAllRow.domain false) (Rows.fnCountsSharedOfAllSpec.post enc Try.prog Try.f5 false true false false) := by
  refine returnsInHanded_of_change (C := Try.checked) own started (by as_aux_lemma => kernel_rfl) Try.func5
    (ChangeSpec.witness6 (enc := enc) (C := Try.checked) false ⟨#[], #[.slice none 0 0, .int .i64 0, .int .i64 0], []⟩ 8 (by as_aux_lemma => kernel_rfl) (by as_aux_lemma => kernel_rfl) (by as_aux_lemma => kernel_rfl) (by as_aux_lemma => kernel_rfl)) ?_
  intro W base args ds gs before hval0 hW hcnd _
  have hval : ∀ (j : Nat) t v, Try.f5.params[j]? = some t → args[j]? = some v → Value.okWide Try.prog W .any base t v := hval0
  have hW' := hW
  obtain ⟨p, q, hA0, hV, rfl, hfz, hnd⟩ := hW
  have hA : DataW.TrodAll enc Try.prog W 0 (fun _ => true) true Try.f5.params.toList args.toList ds p := hA0
  rw [Try.params5] at hA hval
  obtain ⟨v0, vs0, d0, ds0, p0, q0, hargs, rfl, rfl, h0, r0⟩ := trodAll_cons hA
  obtain ⟨v1, vs1, d1, ds1, p1, q1, rfl, rfl, rfl, h1, r1⟩ := trodAll_cons r0
  obtain ⟨v2, vs2, d2, ds2, p2, q2, rfl, rfl, rfl, h2, r2⟩ := trodAll_cons r1
  obtain ⟨rfl, rfl, rfl⟩ := trodAll_nil r2
  obtain rfl : args = #[v0, v1, v2] := by cases args; simp_all
  obtain ⟨rfl, rfl⟩ := trodVars_none hV
  have k0 := h0
  have lt0 : ∀ x ∈ p0, x.block < W.heap.size := by obtain ⟨m, hm⟩ := k0; exact DataW.trod_lt m _ _ _ hm
  obtain ⟨s0, len0, cap0, rfl⟩ := okWide_slice Try.underlying41 (hval 0 41 v0 rfl rfl)
  obtain ⟨x0, _, i0, w0⟩ := arg_s5 Try.underlying41 Try.underlying38 Try.underlying2 rfl (by as_aux_lemma => kernel_rfl) (by as_aux_lemma => kernel_rfl) h0
  obtain ⟨a1, rfl, rfl, rfl, w1⟩ := open_int Try.underlying2 (hval 1 2 v1 rfl rfl) h1
  obtain ⟨a2, rfl, rfl, rfl, w2⟩ := open_int Try.underlying2 (hval 2 2 v2 rfl rfl) h2
  clear hA0 hval0
  refine (walk W _ x0 i0 w0 a1 (i64_of_wf w1) a2 (i64_of_wf w2)).mono fun e W' ⟨he, bel⟩ => ?_
  subst he
  exact ⟨_, rfl, _, _, _, [], _, [], hW', trodAll_mk1 (shut_bool Try.underlying4 _), (trodAll_cons_mk (Below.trod laidOut (by as_aux_lemma => kernel_rfl) (of_decide_eq_true (by as_aux_lemma => kernel_rfl)) k0 bel lt0) (trodAll_cons_mk (shut_int Try.underlying2 w1) (trodAll_cons_mk (shut_int Try.underlying2 w2) (trodAll_mk0)))), rfl, bel.frame _, fun h => by cases h⟩

/-- The given statement. -/
theorem proved : Rows.FnCountsSharedOfAllSaid :=
  OpenClaim.holds_of_wide 5 Try.f5 rfl rfl rfl rfl rfl rfl rfl ⟨rfl, rfl, rfl, rfl, rfl⟩ rfl rfl rfl rfl rfl (by kernel_rfl) Try.func5 (by kernel_rfl)
    (of_decide_eq_true (by kernel_rfl)) (by unfold Func.isWrapper; first | (rw [if_pos (by decide +kernel)]; kernel_rfl) | (rw [if_neg (by decide +kernel)]; exact ⟨rfl, rfl⟩))
    (fun os started H enc _ => lifted os started H enc)
#print axioms proved

end Go.Proofs.Ytldehffhpblliaa.lFnCountsSharedOfAll
