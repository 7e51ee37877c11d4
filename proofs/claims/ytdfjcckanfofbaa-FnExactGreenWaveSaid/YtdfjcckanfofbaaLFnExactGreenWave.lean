/- Whatever places, speed, cycle, green and steps are given, the program's GreenWave and the reference's return the same offsets, the same band and the same bool, leave the places alone and share no memory: the law returns true. No condition. -/
import Derived.Test.YtdfjcckanfofbaaRows
import Derived.Test.YtdfjcckanfofbaaGreenS
import Derived.Test.YtdfjcckanfofbaaWords
import Derived.Test.YtdfjcckanfofbaaSameF
import Derived.Test.YtdfjcckanfofbaaOpen2
namespace Go.Proofs.Ytdfjcckanfofbaa.lFnExactGreenWave
open Go.ChangeShapes Go.WideShapes Go.ChangeAt Go.RowKit Go.Proofs.Ytdfjcckanfofbaa Plain
set_option linter.unusedVariables false
set_option linter.unusedSimpArgs false
attribute [local go_sem ↓] Go.wp_at_zero Go.wp_at_succ

theorem len_ok (xs : List Nat) (_ : ∀ x ∈ xs, (Lit.float .f32 x).wf = true) (h : xs.length ≤ 1048576) (s : Nat) (_ : (Lit.float .f32 s).wf = true) (c : Nat) (_ : (Lit.float .f32 c).wf = true) (g : Nat) (_ : (Lit.float .f32 g).wf = true) (n : Int) (_ : I64 n) : (waveM xs s c g n).1.length ≤ 1048576 :=
  Nat.le_trans (wave_len xs s c g n) h
theorem num_ok (xs : List Nat) (_ : ∀ x ∈ xs, (Lit.float .f32 x).wf = true) (h : xs.length ≤ 1048576) (s : Nat) (_ : (Lit.float .f32 s).wf = true) (c : Nat) (_ : (Lit.float .f32 c).wf = true) (g : Nat) (_ : (Lit.float .f32 g).wf = true) (n : Int) (_ : I64 n) : nrm .f32 (waveM xs s c g n).2.1 = some (waveM xs s c g n).2.1 := wave_num xs (by assumption) s (by assumption) c (by assumption) g n
theorem sameFloat_b (x y : Nat) (m : Option Nat) (w : World) (hx : nrm .f64 x = m) (hy : nrm .f64 y = m) : Calls Try.prog 8 #[.float .f64 x, .float .f64 y] w fun r w' => r = .returned (.bool true) ∧ Below w.heap.size w w' :=
  (sameFloat_any x y m w hx hy).mono fun _ _ h => by obtain ⟨h1, k, rfl⟩ := h; exact ⟨h1, below_drewN (Below.refl _ _) k⟩
theorem impl_any (w : World) (v0 : Value) (xs : List Nat) (i0 : ∀ x ∈ xs, (Lit.float .f32 x).wf = true) (_ : xs.length ≤ 1048576) (s0 : Sl w 1 v0 xs.length (xs.map vf)) (s : Nat) (i1 : (Lit.float .f32 s).wf = true) (c : Nat) (i2 : (Lit.float .f32 c).wf = true) (g : Nat) (_ : (Lit.float .f32 g).wf = true) (n : Int) (_ : I64 n) :
    Calls Try.prog 6 #[v0, .float .f32 s, .float .f32 c, .float .f32 g, .int .i64 n] w (WaveOut (waveM xs s c g n) w) := implWave_any w v0 xs i0 s0 s i1 c i2 g n
theorem spec_any (w : World) (v0 : Value) (xs : List Nat) (i0 : ∀ x ∈ xs, (Lit.float .f32 x).wf = true) (_ : xs.length ≤ 1048576) (s0 : Sl w 1 v0 xs.length (xs.map vf)) (s : Nat) (i1 : (Lit.float .f32 s).wf = true) (c : Nat) (i2 : (Lit.float .f32 c).wf = true) (g : Nat) (_ : (Lit.float .f32 g).wf = true) (n : Int) (_ : I64 n) :
    Calls Try.prog 4 #[v0, .float .f32 s, .float .f32 c, .float .f32 g, .int .i64 n] w (WaveOut (waveM xs s c g n) w) := specWave_any w v0 xs i0 s0 s i1 c i2 g n

set_option maxHeartbeats 2000000 in
set_option maxRecDepth 100000 in
theorem walk (w : World) (v0 : Value) (x0 : List Nat) (i0 : ∀ x ∈ x0, (Lit.float .f32 x).wf = true) (s0 : Sl w 1 v0 x0.length (x0.map vf)) (a1 : Nat) (i1 : (Lit.float .f32 a1).wf = true) (a2 : Nat) (i2 : (Lit.float .f32 a2).wf = true) (a3 : Nat) (i3 : (Lit.float .f32 a3).wf = true) (a4 : Int) (i4 : I64 a4) :
    Calls Try.prog 3 #[v0, .float .f32 a1, .float .f32 a2, .float .f32 a3, .int .i64 a4] w fun e w' => e = .returned (.bool true) ∧ Below w.heap.size w w' := by
  obtain ⟨A0, cap0, hw0, _, hr0⟩ := id s0
  have hv0 := hd hw0; clear hw0
  have hm0 := hr0.2.1
  by_cases b0 : x0.length ≤ 1048576
  rotate_left
  · have e0 := hv0.out; subst e0
    unfold maxLen at hm0
    have hx' : ¬ ((x0.length : Int) ≤ 1048576) := by omega
    go_enter Try.func3, Try.ntmps3
    go_wp2
    go_ret
    exact ⟨rfl, Below.refl _ _⟩
  have hx0 : (x0.length : Int) ≤ 1048576 := by omega
  have z0 := size_le b0
  have bg := len_ok x0 i0 b0 a1 i1 a2 i2 a3 i3 a4 i4
  have zg := size_le bg
  obtain ⟨rF, hrF, hcF⟩ := conv_num (P := Try.prog) w 23 29 _ Try.underlying23 Try.underlying29 (num_ok x0 i0 b0 a1 i1 a2 i2 a3 i3 a4 i4)
  have hB := Below.refl w.heap.size w
  clear hr0 hm0
  have e0 := hv0.out; subst e0; clear hv0
  go_enter Try.func3, Try.ntmps3
  go_wp2_with fail
  refine (toFloat32S_any _ x0 _ (s0.below hB) b0).mono ?_; rintro e w1 ⟨s0_, rfl, ho_s0_, hb⟩
  replace ho_s0_ := own_mono ho_s0_ hB.size
  replace hB := below_tr hb hB
  clear hb
  go_wp2_with fail
  refine (spec_any _ _ x0 i0 b0 (own_sl ho_s0_ z0) a1 i1 a2 i2 a3 i3 a4 i4).mono ?_; rintro e w2 ⟨w0, rfl, ho_w0, hb⟩
  have d_s0__w0 := dj_new ho_s0_ ho_w0
  replace ho_s0_ := own_below ho_s0_ hb
  replace ho_w0 := own_mono ho_w0 hB.size
  replace hB := below_tr hb hB
  clear hb
  clear ho_s0_ d_s0__w0
  go_wp2_with fail
  refine (toFloat32S_any _ x0 _ (s0.below hB) b0).mono ?_; rintro e w3 ⟨x0_, rfl, ho_x0_, hb⟩
  have d_w0_x0_ := dj_new ho_w0 ho_x0_
  replace ho_w0 := own_below ho_w0 hb
  replace ho_x0_ := own_mono ho_x0_ hB.size
  replace hB := below_tr hb hB
  clear hb
  go_wp2_with fail
  refine (impl_any _ _ x0 i0 b0 (own_sl ho_x0_ z0) a1 i1 a2 i2 a3 i3 a4 i4).mono ?_; rintro e w4 ⟨g0, rfl, ho_g0, hb⟩
  have d_w0_g0 := dj_new ho_w0 ho_g0
  have d_x0__g0 := dj_new ho_x0_ ho_g0
  replace ho_w0 := own_below ho_w0 hb
  replace ho_x0_ := own_below ho_x0_ hb
  replace ho_g0 := own_mono ho_g0 hB.size
  replace hB := below_tr hb hB
  clear hb
  go_wp2_with fail
  refine (eqFloat32S_t _ _ _ _ _ (own_sl ho_g0 zg) (own_sl ho_w0 zg) rfl).mono ?_; rintro e w5 ⟨rfl, hb⟩
  replace ho_w0 := own_below ho_w0 hb
  replace ho_x0_ := own_below ho_x0_ hb
  replace ho_g0 := own_below ho_g0 hb
  replace hB := below_tr hb hB
  clear hb
  go_wp2_with fail
  refine (sameFloat_b _ _ _ _ hrF hrF).mono ?_; rintro e w6 ⟨rfl, hb⟩
  replace ho_w0 := own_below ho_w0 hb
  replace ho_x0_ := own_below ho_x0_ hb
  replace ho_g0 := own_below ho_g0 hb
  replace hB := below_tr hb hB
  clear hb
  go_wp2_with fail
  refine (toFloat32S_any _ x0 _ (s0.below hB) b0).mono ?_; rintro e w7 ⟨c0_, rfl, ho_c0_, hb⟩
  have d_w0_c0_ := dj_new ho_w0 ho_c0_
  have d_x0__c0_ := dj_new ho_x0_ ho_c0_
  have d_g0_c0_ := dj_new ho_g0 ho_c0_
  replace ho_w0 := own_below ho_w0 hb
  replace ho_x0_ := own_below ho_x0_ hb
  replace ho_g0 := own_below ho_g0 hb
  replace ho_c0_ := own_mono ho_c0_ hB.size
  replace hB := below_tr hb hB
  clear hb
  go_wp2_with fail
  refine (eqFloat32S_t _ _ x0 x0 _ (own_sl ho_x0_ z0) (own_sl ho_c0_ z0) rfl).mono ?_; rintro e w8 ⟨rfl, hb⟩
  replace ho_w0 := own_below ho_w0 hb
  replace ho_x0_ := own_below ho_x0_ hb
  replace ho_g0 := own_below ho_g0 hb
  replace ho_c0_ := own_below ho_c0_ hb
  replace hB := below_tr hb hB
  clear hb
  clear ho_c0_ d_w0_c0_ d_x0__c0_ d_g0_c0_
  go_wp2_with fail
  have hrow := own_row ho_x0_ (Nat.le_refl _)
  refine (markFloat32S_any _ _ _ _ (1) _ ho_x0_ b0 (by omega) (by omega)).mono ?_; rintro e w9 ⟨rfl, ho', hg⟩
  replace ho_w0 := own_kept ho_w0 hg d_w0_x0_
  replace ho_g0 := own_kept ho_g0 hg (dj_symm d_x0__g0)
  replace ho_x0_ := ho'
  replace hB := below_row hg hB hrow
  clear hg hrow ho'
  clear ho_x0_ d_w0_x0_ d_x0__g0
  go_wp2_with fail
  refine (eqFloat32S_t _ _ _ _ _ (own_sl ho_g0 zg) (own_sl ho_w0 zg) rfl).mono ?_; rintro e w10 ⟨rfl, hb⟩
  replace ho_w0 := own_below ho_w0 hb
  replace ho_g0 := own_below ho_g0 hb
  replace hB := below_tr hb hB
  clear hb
  go_wp2_with fail
  refine (sameFloat_b _ _ _ _ hrF hrF).mono ?_; rintro e w11 ⟨rfl, hb⟩
  replace ho_w0 := own_below ho_w0 hb
  replace ho_g0 := own_below ho_g0 hb
  replace hB := below_tr hb hB
  clear hb
  go_wp2_with fail
  have hrow := own_row ho_g0 (Nat.le_refl _)
  refine (markFloat32S_any _ _ _ _ (1) _ ho_g0 bg (by omega) (by omega)).mono ?_; rintro e w12 ⟨rfl, ho', hg⟩
  replace ho_w0 := own_kept ho_w0 hg d_w0_g0
  replace ho_g0 := ho'
  replace hB := below_row hg hB hrow
  clear hg hrow ho'
  go_wp2_with fail
  refine (heldFloat32S_b _ _ (1) _ (own_sl ho_g0 zg) bg (by omega) (by omega)).mono ?_; rintro e w13 ⟨rfl, hb⟩
  replace ho_w0 := own_below ho_w0 hb
  replace ho_g0 := own_below ho_g0 hb
  replace hB := below_tr hb hB
  clear hb
  go_wp2_with fail
  refine (toFloat32S_any _ x0 _ (s0.below hB) b0).mono ?_; rintro e w14 ⟨t0_, rfl, ho_t0_, hb⟩
  have d_w0_t0_ := dj_new ho_w0 ho_t0_
  have d_g0_t0_ := dj_new ho_g0 ho_t0_
  replace ho_w0 := own_below ho_w0 hb
  replace ho_g0 := own_below ho_g0 hb
  replace ho_t0_ := own_mono ho_t0_ hB.size
  replace hB := below_tr hb hB
  clear hb
  go_wp2_with fail
  refine (impl_any _ _ x0 i0 b0 (own_sl ho_t0_ z0) a1 i1 a2 i2 a3 i3 a4 i4).mono ?_; rintro e w15 ⟨h0, rfl, ho_h0, hb⟩
  have d_w0_h0 := dj_new ho_w0 ho_h0
  have d_g0_h0 := dj_new ho_g0 ho_h0
  have d_t0__h0 := dj_new ho_t0_ ho_h0
  replace ho_w0 := own_below ho_w0 hb
  replace ho_g0 := own_below ho_g0 hb
  replace ho_t0_ := own_below ho_t0_ hb
  replace ho_h0 := own_mono ho_h0 hB.size
  replace hB := below_tr hb hB
  clear hb
  go_wp2_with fail
  refine (eqFloat32S_t _ _ _ _ _ (own_sl ho_h0 zg) (own_sl ho_w0 zg) rfl).mono ?_; rintro e w16 ⟨rfl, hb⟩
  replace ho_w0 := own_below ho_w0 hb
  replace ho_g0 := own_below ho_g0 hb
  replace ho_t0_ := own_below ho_t0_ hb
  replace ho_h0 := own_below ho_h0 hb
  replace hB := below_tr hb hB
  clear hb
  go_wp2_with fail
  refine (sameFloat_b _ _ _ _ hrF hrF).mono ?_; rintro e w17 ⟨rfl, hb⟩
  replace ho_w0 := own_below ho_w0 hb
  replace ho_g0 := own_below ho_g0 hb
  replace ho_t0_ := own_below ho_t0_ hb
  replace ho_h0 := own_below ho_h0 hb
  replace hB := below_tr hb hB
  clear hb
  go_wp2_with fail
  refine (heldFloat32S_b _ _ (1) _ (own_sl ho_g0 zg) bg (by omega) (by omega)).mono ?_; rintro e w18 ⟨rfl, hb⟩
  replace ho_w0 := own_below ho_w0 hb
  replace ho_g0 := own_below ho_g0 hb
  replace ho_t0_ := own_below ho_t0_ hb
  replace ho_h0 := own_below ho_h0 hb
  replace hB := below_tr hb hB
  clear hb
  go_wp2_with fail
  go_ret
  exact ⟨rfl, hB⟩

theorem own : ownKnob Try.prog.godebug = none := by kernel_rfl
theorem laidOut : laidOutB Try.prog = true := by kernel_rfl

set_option maxRecDepth 100000 in
theorem lifted (os : Os) (started : os.Started) (H : Type) (enc : TypeId × Value → H) :
    ReturnsInHanded {} Try.checked os 3 .any (Rows.fnExactGreenWaveSpec.pre6 enc Try.prog Try.f3 Rows.fnExactGreenWaveRow.domain false) (Rows.fnExactGreenWaveSpec.post enc Try.prog Try.f3 false true false false) := by
  refine returnsInHanded_of_change (C := Try.checked) own started (by as_aux_lemma => kernel_rfl) Try.func3
    (ChangeSpec.witness6 (enc := enc) (C := Try.checked) false ⟨#[], #[.slice none 0 0, .float .f32 0, .float .f32 0, .float .f32 0, .int .i64 0], []⟩ 8 (by as_aux_lemma => kernel_rfl) (by as_aux_lemma => kernel_rfl) (by as_aux_lemma => kernel_rfl) (by as_aux_lemma => kernel_rfl)) ?_
  intro W base args ds gs before hval0 hW hcnd _
  have hval : ∀ (j : Nat) t v, Try.f3.params[j]? = some t → args[j]? = some v → Value.okWide Try.prog W .any base t v := hval0
  have hW' := hW
  obtain ⟨p, q, hA0, hV, rfl, hfz, hnd⟩ := hW
  have hA : DataW.TrodAll enc Try.prog W 0 (fun _ => true) true Try.f3.params.toList args.toList ds p := hA0
  rw [Try.params3] at hA hval
  obtain ⟨v0, vs0, d0, ds0, p0, q0, hargs, rfl, rfl, h0, r0⟩ := trodAll_cons hA
  obtain ⟨v1, vs1, d1, ds1, p1, q1, rfl, rfl, rfl, h1, r1⟩ := trodAll_cons r0
  obtain ⟨v2, vs2, d2, ds2, p2, q2, rfl, rfl, rfl, h2, r2⟩ := trodAll_cons r1
  obtain ⟨v3, vs3, d3, ds3, p3, q3, rfl, rfl, rfl, h3, r3⟩ := trodAll_cons r2
  obtain ⟨v4, vs4, d4, ds4, p4, q4, rfl, rfl, rfl, h4, r4⟩ := trodAll_cons r3
  obtain ⟨rfl, rfl, rfl⟩ := trodAll_nil r4
  obtain rfl : args = #[v0, v1, v2, v3, v4] := by cases args; simp_all
  obtain ⟨rfl, rfl⟩ := trodVars_none hV
  have k0 := h0
  have lt0 : ∀ x ∈ p0, x.block < W.heap.size := by obtain ⟨m, hm⟩ := k0; exact DataW.trod_lt m _ _ _ hm
  obtain ⟨s0, len0, cap0, rfl⟩ := okWide_slice Try.underlying22 (hval 0 22 v0 rfl rfl)
  obtain ⟨x0, _, i0, w0⟩ := arg_floats Try.underlying22 Try.underlying23 (by as_aux_lemma => kernel_rfl) h0
  have k1 := h1
  have lt1 : ∀ x ∈ p1, x.block < W.heap.size := by obtain ⟨m, hm⟩ := k1; exact DataW.trod_lt m _ _ _ hm
  obtain ⟨a1, rfl, _, _, w1⟩ := open_float Try.underlying23 (hval 1 23 v1 rfl rfl) h1
  have k2 := h2
  have lt2 : ∀ x ∈ p2, x.block < W.heap.size := by obtain ⟨m, hm⟩ := k2; exact DataW.trod_lt m _ _ _ hm
  obtain ⟨a2, rfl, _, _, w2⟩ := open_float Try.underlying23 (hval 2 23 v2 rfl rfl) h2
  have k3 := h3
  have lt3 : ∀ x ∈ p3, x.block < W.heap.size := by obtain ⟨m, hm⟩ := k3; exact DataW.trod_lt m _ _ _ hm
  obtain ⟨a3, rfl, _, _, w3⟩ := open_float Try.underlying23 (hval 3 23 v3 rfl rfl) h3
  obtain ⟨a4, rfl, rfl, rfl, w4⟩ := open_int Try.underlying2 (hval 4 2 v4 rfl rfl) h4
  clear hA0 hval0
  refine (walk W _ x0 i0 w0 a1 w1 a2 w2 a3 w3 a4 (i64_of_wf w4)).mono fun e W' ⟨he, bel⟩ => ?_
  subst he
  exact ⟨_, rfl, _, _, _, [], _, [], hW', trodAll_mk1 (shut_bool Try.underlying4 _), (trodAll_cons_mk (Below.trod laidOut (by as_aux_lemma => kernel_rfl) (of_decide_eq_true (by as_aux_lemma => kernel_rfl)) k0 bel lt0) (trodAll_cons_mk (Below.trod laidOut (by as_aux_lemma => kernel_rfl) (of_decide_eq_true (by as_aux_lemma => kernel_rfl)) k1 bel lt1) (trodAll_cons_mk (Below.trod laidOut (by as_aux_lemma => kernel_rfl) (of_decide_eq_true (by as_aux_lemma => kernel_rfl)) k2 bel lt2) (trodAll_cons_mk (Below.trod laidOut (by as_aux_lemma => kernel_rfl) (of_decide_eq_true (by as_aux_lemma => kernel_rfl)) k3 bel lt3) (trodAll_cons_mk (shut_int Try.underlying2 w4) (trodAll_mk0)))))), rfl, bel.frame _, fun h => by cases h⟩

/-- The given statement. -/
theorem proved : Rows.FnExactGreenWaveSaid :=
  OpenClaim.holds_of_wide 3 Try.f3 rfl rfl rfl rfl rfl rfl rfl ⟨rfl, rfl, rfl, rfl, rfl⟩ rfl rfl rfl rfl rfl (by kernel_rfl) Try.func3 (by kernel_rfl)
    (of_decide_eq_true (by kernel_rfl)) (by unfold Func.isWrapper; first | (rw [if_pos (by decide +kernel)]; kernel_rfl) | (rw [if_neg (by decide +kernel)]; exact ⟨rfl, rfl⟩))
    (fun os started H enc _ => lifted os started H enc)
#print axioms proved

end Go.Proofs.Ytdfjcckanfofbaa.lFnExactGreenWave
