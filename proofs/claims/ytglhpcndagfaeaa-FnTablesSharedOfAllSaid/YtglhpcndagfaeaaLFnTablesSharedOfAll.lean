/- Whatever events, lists of rules, period and numbers of workers are given, the program's TablesShared returns what the reference's does, and the same for any number of workers: the law returns true. No condition. -/
import Derived.Test.YtglhpcndagfaeaaRows
import Derived.Test.YtglhpcndagfaeaaShared
import Derived.Test.YtglhpcndagfaeaaOpen3
import Derived.Sort.AtCall
namespace Go.Proofs.Ytglhpcndagfaeaa.lFnTablesSharedOfAll
open Go.ChangeShapes Go.WideShapes Go.ChangeAt Go.RowKit Go.Proofs.Ytglhpcndagfaeaa Plain
set_option linter.unusedVariables false
set_option linter.unusedSimpArgs false
attribute [local go_sem ↓] Go.wp_at_zero Go.wp_at_succ

theorem shared_len {ev p wk : Int} {ms : List (Value × List Q4)} : (MShared ev p wk ms).1.length ≤ 8 := by
  unfold MShared
  split
  · rename_i h
    simp only [sharedOk, Bool.and_eq_true, decide_eq_true_eq] at h
    simp only [sharedL, List.length_map]
    omega
  · simp
theorem shared_any {ev p wk wk' : Int} {ms : List (Value × List Q4)} (h1 : inR wk 1 8 = true) (h2 : inR wk' 1 8 = true) : MShared ev p wk' ms = MShared ev p wk ms := by
  unfold MShared sharedOk
  rw [h1, h2]

set_option maxHeartbeats 2000000 in
set_option maxRecDepth 100000 in
theorem walk (w : World) (ev : Int) (i0 : I64 ev) (v : Value) (ms : List (Value × List Q4)) (hq : ∀ m ∈ ms, Sl w 4 m.1 m.2.length (q4s m.2)) (s : Sl w 1 v ms.length (ms.map Prod.fst)) (p : Int) (i1 : I64 p) (wk : Int) (i2 : I64 wk) (ha : Int) (i3 : I64 ha) :
    Calls Try.prog 3 #[.int .i64 ev, v, .int .i64 p, .int .i64 wk, .int .i64 ha] w fun e w' => e = .returned (.bool true) ∧ Below w.heap.size w w' := by
  have s0 := s
  obtain ⟨A, cap, rfl, hcap, hr⟩ := s0
  have hm0 := hr.2.1
  unfold maxLen at hm0
  by_cases hbig : (10000 : Int) < (ms.length : Int)
  · go_enter Try.func3, Try.ntmps3
    go_wp2
    go_ret
    exact ⟨rfl, Below.refl _ _⟩
  · have I := hd (fun w1 (k : Int) hb => TablesShared_any w1 ev p k (.slice A ms.length cap) ms (s.below hb) (fun m hm => (hq m hm).below hb))
    have S := hd (fun w1 (k : Int) hb => specTablesShared_any w1 ev p k (.slice A ms.length cap) ms (s.below hb) (fun m hm => (hq m hm).below hb))
    have L1 := shared_len (ev := ev) (p := p) (wk := wk) (ms := ms)
    have L2 := shared_len (ev := ev) (p := p) (wk := ha) (ms := ms)
    have SA := hd (fun h1 h2 => shared_any (ev := ev) (p := p) (wk := wk) (wk' := ha) (ms := ms) h1 h2)
    clear s hq hr
    generalize hx : MShared ev p wk ms = X at *
    generalize hy : MShared ev p ha ms = Y at *
    have Hx := hd hx; have Hy := hd hy
    clear hx hy
    obtain ⟨l1, b1⟩ := X
    obtain ⟨l2, b2⟩ := Y
    simp only at L1 L2
    go_enter Try.func3, Try.ntmps3
    go_wp2_with fail
    have C1 := I.out w wk (Below.refl _ _)
    rw [Hx.out] at C1
    refine C1.mono ?_
    rintro e w1 ⟨x0, rfl, ho1, hb1⟩
    go_wp2_with fail
    have C2 := I.out w1 ha hb1
    rw [Hy.out] at C2
    refine C2.mono ?_
    rintro e w2 ⟨y0, rfl, ho2, hb2⟩
    have hB2 := below_tr hb2 hb1
    go_wp2_with fail
    have C3 := S.out w2 wk hB2
    rw [Hx.out] at C3
    refine C3.mono ?_
    rintro e w3 ⟨z0, rfl, ho3, hb3⟩
    have hB3 := below_tr hb3 hB2
    have X0 := own_below (own_below ho1 hb2) hb3
    have Y0 := own_below ho2 hb3
    have hsl1 : Sl w3 1 x0 l1.length (l1.map vi) := own_sl X0 (size_le (by omega))
    have hsl2 : Sl w3 1 y0 l2.length (l2.map vi) := own_sl Y0 (size_le (by omega))
    have hsl3 : Sl w3 1 z0 l1.length (l1.map vi) := own_sl ho3 (size_le (by omega))
    have E1 := hd (fun w4 hb => sameInts_b x0 z0 l1 l1 w4 (hsl1.below hb) (hsl3.below hb))
    have E2 := hd (fun w4 hb => sameInts_b x0 y0 l1 l2 w4 (hsl1.below hb) (hsl2.below hb))
    have SAF := hd (fun h1 h2 => (show (l2, b2) = (l1, b1) from SA.out h1 h2))
    have HB3 := hd hB3
    clear C1 C2 C3 ho1 ho2 ho3 hb1 hb2 hb3 hB2 hB3 X0 Y0 hsl1 hsl2 hsl3 I S SA
    cases hwk : inR wk 1 8 with
    | false =>
      rcases inR_no.1 hwk with hw | hw
      · clear hwk SAF
        cases b1 with
        | false =>
          simp only [beq_self_eq_true] at E1
          go_wp2_with (first | (go_at_call_has 6 z0; refine (E1.out _ (Below.refl _ _)).mono ?_; rintro e w4 ⟨rfl, hb4⟩) | (go_at_call_has 6 y0; refine (E2.out _ hb4).mono ?_; rintro e w5 ⟨rfl, hb5⟩))
          go_ret
          exact ⟨by first | rfl | simp, by first | exact HB3.out | exact below_tr hb4 HB3.out | exact below_tr hb5 (below_tr hb4 HB3.out) | exact below_tr hb5 HB3.out⟩
        | true =>
          simp only [beq_self_eq_true] at E1
          go_wp2_with (first | (go_at_call_has 6 z0; refine (E1.out _ (Below.refl _ _)).mono ?_; rintro e w4 ⟨rfl, hb4⟩) | (go_at_call_has 6 y0; refine (E2.out _ hb4).mono ?_; rintro e w5 ⟨rfl, hb5⟩))
          go_ret
          exact ⟨by first | rfl | simp, by first | exact HB3.out | exact below_tr hb4 HB3.out | exact below_tr hb5 (below_tr hb4 HB3.out) | exact below_tr hb5 HB3.out⟩
      · have hw1 : ¬ wk < 1 := by omega
        clear hwk SAF
        cases b1 with
        | false =>
          simp only [beq_self_eq_true] at E1
          go_wp2_with (first | (go_at_call_has 6 z0; refine (E1.out _ (Below.refl _ _)).mono ?_; rintro e w4 ⟨rfl, hb4⟩) | (go_at_call_has 6 y0; refine (E2.out _ hb4).mono ?_; rintro e w5 ⟨rfl, hb5⟩))
          go_ret
          exact ⟨by first | rfl | simp, by first | exact HB3.out | exact below_tr hb4 HB3.out | exact below_tr hb5 (below_tr hb4 HB3.out) | exact below_tr hb5 HB3.out⟩
        | true =>
          simp only [beq_self_eq_true] at E1
          go_wp2_with (first | (go_at_call_has 6 z0; refine (E1.out _ (Below.refl _ _)).mono ?_; rintro e w4 ⟨rfl, hb4⟩) | (go_at_call_has 6 y0; refine (E2.out _ hb4).mono ?_; rintro e w5 ⟨rfl, hb5⟩))
          go_ret
          exact ⟨by first | rfl | simp, by first | exact HB3.out | exact below_tr hb4 HB3.out | exact below_tr hb5 (below_tr hb4 HB3.out) | exact below_tr hb5 HB3.out⟩
    | true =>
      obtain ⟨g1, g2⟩ := inR_iff.1 hwk
      cases hha : inR ha 1 8 with
      | false =>
        rcases inR_no.1 hha with hw | hw
        · clear hwk hha SAF
          cases b1 with
          | false =>
            simp only [beq_self_eq_true] at E1
            go_wp2_with (first | (go_at_call_has 6 z0; refine (E1.out _ (Below.refl _ _)).mono ?_; rintro e w4 ⟨rfl, hb4⟩) | (go_at_call_has 6 y0; refine (E2.out _ hb4).mono ?_; rintro e w5 ⟨rfl, hb5⟩))
            go_ret
            exact ⟨by first | rfl | simp, by first | exact HB3.out | exact below_tr hb4 HB3.out | exact below_tr hb5 (below_tr hb4 HB3.out) | exact below_tr hb5 HB3.out⟩
          | true =>
            simp only [beq_self_eq_true] at E1
            go_wp2_with (first | (go_at_call_has 6 z0; refine (E1.out _ (Below.refl _ _)).mono ?_; rintro e w4 ⟨rfl, hb4⟩) | (go_at_call_has 6 y0; refine (E2.out _ hb4).mono ?_; rintro e w5 ⟨rfl, hb5⟩))
            go_ret
            exact ⟨by first | rfl | simp, by first | exact HB3.out | exact below_tr hb4 HB3.out | exact below_tr hb5 (below_tr hb4 HB3.out) | exact below_tr hb5 HB3.out⟩
        · have hw1 : ¬ ha < 1 := by omega
          clear hwk hha SAF
          cases b1 with
          | false =>
            simp only [beq_self_eq_true] at E1
            go_wp2_with (first | (go_at_call_has 6 z0; refine (E1.out _ (Below.refl _ _)).mono ?_; rintro e w4 ⟨rfl, hb4⟩) | (go_at_call_has 6 y0; refine (E2.out _ hb4).mono ?_; rintro e w5 ⟨rfl, hb5⟩))
            go_ret
            exact ⟨by first | rfl | simp, by first | exact HB3.out | exact below_tr hb4 HB3.out | exact below_tr hb5 (below_tr hb4 HB3.out) | exact below_tr hb5 HB3.out⟩
          | true =>
            simp only [beq_self_eq_true] at E1
            go_wp2_with (first | (go_at_call_has 6 z0; refine (E1.out _ (Below.refl _ _)).mono ?_; rintro e w4 ⟨rfl, hb4⟩) | (go_at_call_has 6 y0; refine (E2.out _ hb4).mono ?_; rintro e w5 ⟨rfl, hb5⟩))
            go_ret
            exact ⟨by first | rfl | simp, by first | exact HB3.out | exact below_tr hb4 HB3.out | exact below_tr hb5 (below_tr hb4 HB3.out) | exact below_tr hb5 HB3.out⟩
      | true =>
        obtain ⟨g3, g4⟩ := inR_iff.1 hha
        have e := SAF.out hwk hha
        obtain ⟨rfl, rfl⟩ := Prod.mk.inj e
        clear hwk hha e SAF
        simp only [beq_self_eq_true] at E2
        cases b2 with
        | false =>
          simp only [beq_self_eq_true] at E1
          go_wp2_with (first | (go_at_call_has 6 z0; refine (E1.out _ (Below.refl _ _)).mono ?_; rintro e w4 ⟨rfl, hb4⟩) | (go_at_call_has 6 y0; refine (E2.out _ hb4).mono ?_; rintro e w5 ⟨rfl, hb5⟩))
          go_ret
          exact ⟨by first | rfl | simp, by first | exact HB3.out | exact below_tr hb4 HB3.out | exact below_tr hb5 (below_tr hb4 HB3.out) | exact below_tr hb5 HB3.out⟩
        | true =>
          simp only [beq_self_eq_true] at E1
          go_wp2_with (first | (go_at_call_has 6 z0; refine (E1.out _ (Below.refl _ _)).mono ?_; rintro e w4 ⟨rfl, hb4⟩) | (go_at_call_has 6 y0; refine (E2.out _ hb4).mono ?_; rintro e w5 ⟨rfl, hb5⟩))
          go_ret
          exact ⟨by first | rfl | simp, by first | exact HB3.out | exact below_tr hb4 HB3.out | exact below_tr hb5 (below_tr hb4 HB3.out) | exact below_tr hb5 HB3.out⟩

theorem own : ownKnob Try.prog.godebug = none := by kernel_rfl
theorem laidOut : laidOutB Try.prog = true := by kernel_rfl

set_option maxRecDepth 100000 in
theorem lifted (os : Os) (started : os.Started) (H : Type) (enc : TypeId × Value → H) :
    ReturnsInHanded {} Try.checked os 3 .any (Rows.fnTablesSharedOfAllSpec.pre6 enc Try.prog Try.f3 Rows.fnTablesSharedOfAllRow.domain false) (Rows.fnTablesSharedOfAllSpec.post enc Try.prog Try.f3 false true false false) := by
  refine returnsInHanded_of_change (C := Try.checked) own started (by as_aux_lemma => kernel_rfl) Try.func3
    (ChangeSpec.witness6 (enc := enc) (C := Try.checked) false ⟨#[], #[.int .i64 0, .slice none 0 0, .int .i64 0, .int .i64 0, .int .i64 0], []⟩ 8 (by as_aux_lemma => kernel_rfl) (by as_aux_lemma => kernel_rfl) (by as_aux_lemma => kernel_rfl) (by as_aux_lemma => kernel_rfl)) ?_
  intro W base args ds gs before hval0 hW hcnd _
  have hval : ∀ (j : Nat) t v, Try.f3.params[j]? = some t → args[j]? = some v → Value.okWide Try.prog W .any base t v := hval0
  have hW' := hW
  obtain ⟨p, q, hA0, hV, rfl, hfz, hnd⟩ := hW
  have hA : DataW.TrodAll enc Try.prog W 0 (fun _ => true) true Try.f3.params.toList args.toList ds p := hA0
  rw [Try.params3] at hA hval
  obtain ⟨v0, vs0, d0, ds0, p0, q0, hargs, rfl, rfl, h0, r0⟩ := trodAll_cons hA
  obtain ⟨v1, vs1, d1, ds1, p1, q1, rfl, rfl, rfl, h1, r1⟩ := trodAll_cons r0
  obtain ⟨v2, vs2, d2, ds2, p2, q2, rfl, rfl, rfl, h2, r2⟩ := trodAll_cons r1
  obtain ⟨v3, vs3, d3, ds3, p3, q3, rfl, rfl, rfl, h3, r3⟩ := trodAll_cons r2
  obtain ⟨v4, vs4, d4, ds4, p4, q4, rfl, rfl, rfl, h4, r4⟩ := trodAll_cons r3
  obtain ⟨rfl, rfl, rfl⟩ := trodAll_nil r4
  obtain rfl : args = #[v0, v1, v2, v3, v4] := by cases args; simp_all
  obtain ⟨rfl, rfl⟩ := trodVars_none hV
  obtain ⟨a0, rfl, rfl, rfl, w0⟩ := open_int Try.underlying2 (hval 0 2 v0 rfl rfl) h0
  have k1 := h1
  have lt1 : ∀ x ∈ p1, x.block < W.heap.size := by obtain ⟨m, hm⟩ := k1; exact DataW.trod_lt m _ _ _ hm
  obtain ⟨s1, len1, cap1, rfl⟩ := okWide_slice Try.underlying22 (hval 1 22 v1 rfl rfl)
  obtain ⟨x1, _, i1, w1⟩ := arg_q4s Try.underlying22 Try.underlying29 Try.underlying44 Try.underlying2 rfl (by as_aux_lemma => kernel_rfl) (by as_aux_lemma => kernel_rfl) (by as_aux_lemma => kernel_rfl) h1
  obtain ⟨a2, rfl, rfl, rfl, w2⟩ := open_int Try.underlying2 (hval 2 2 v2 rfl rfl) h2
  obtain ⟨a3, rfl, rfl, rfl, w3⟩ := open_int Try.underlying2 (hval 3 2 v3 rfl rfl) h3
  obtain ⟨a4, rfl, rfl, rfl, w4⟩ := open_int Try.underlying2 (hval 4 2 v4 rfl rfl) h4
  clear hA0 hval0
  refine (walk W a0 (i64_of_wf w0) _ x1 i1 w1 a2 (i64_of_wf w2) a3 (i64_of_wf w3) a4 (i64_of_wf w4)).mono fun e W' ⟨he, bel⟩ => ?_
  subst he
  exact ⟨_, rfl, _, _, _, [], _, [], hW', trodAll_mk1 (shut_bool Try.underlying4 _), (trodAll_cons_mk (shut_int Try.underlying2 w0) (trodAll_cons_mk (Below.trod laidOut (by as_aux_lemma => kernel_rfl) (of_decide_eq_true (by as_aux_lemma => kernel_rfl)) k1 bel lt1) (trodAll_cons_mk (shut_int Try.underlying2 w2) (trodAll_cons_mk (shut_int Try.underlying2 w3) (trodAll_cons_mk (shut_int Try.underlying2 w4) (trodAll_mk0)))))), rfl, bel.frame _, fun h => by cases h⟩

/-- The given statement. -/
theorem proved : Rows.FnTablesSharedOfAllSaid :=
  OpenClaim.holds_of_wide 3 Try.f3 rfl rfl rfl rfl rfl rfl rfl ⟨rfl, rfl, rfl, rfl, rfl⟩ rfl rfl rfl rfl rfl (by kernel_rfl) Try.func3 (by kernel_rfl)
    (of_decide_eq_true (by kernel_rfl)) (by unfold Func.isWrapper; first | (rw [if_pos (by decide +kernel)]; kernel_rfl) | (rw [if_neg (by decide +kernel)]; exact ⟨rfl, rfl⟩))
    (fun os started H enc _ => lifted os started H enc)
#print axioms proved

end Go.Proofs.Ytglhpcndagfaeaa.lFnTablesSharedOfAll
