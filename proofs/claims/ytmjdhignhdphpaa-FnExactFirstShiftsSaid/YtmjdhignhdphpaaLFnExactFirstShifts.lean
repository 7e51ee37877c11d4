/- Whatever rule of shifts and count are given, the program's FirstShifts and the reference's return the same texts, in new memory: the law returns true. No condition. -/
import Derived.Test.YtmjdhignhdphpaaRows
import Derived.Test.YtmjdhignhdphpaaNextM
import Derived.Test.YtmjdhignhdphpaaStrS
import Derived.Test.YtmjdhignhdphpaaOpen
import Derived.Carry
namespace Go.Proofs.Ytmjdhignhdphpaa.lFnExactFirstShifts
open Go.ChangeShapes Go.WideShapes Go.ChangeAt Go.RowKit Go.Proofs.Ytmjdhignhdphpaa Plain
set_option linter.unusedVariables false
set_option linter.unusedSimpArgs false
attribute [local go_sem ↓] Go.wp_at_zero Go.wp_at_succ

theorem len_ok (r : SR) (_i : r.I64) (c : Int) (_j : I64 c) : (Mf r c).1.length ≤ 1048576 := Mf_len r c
theorem spec_any (w : World) (r : SR) (_i : r.I64) (c : Int) (_j : I64 c) :
    Calls Try.prog 4 #[r.val, .int .i64 c] w (OutL 9 1 (Mf r c).1.length (strs (Mf r c).1) (fun u => .tuple #[u, .bool (Mf r c).2]) w) := specFirst_any r c w
theorem impl_any (w : World) (r : SR) (_i : r.I64) (c : Int) (_j : I64 c) :
    Calls Try.prog 6 #[r.val, .int .i64 c] w (OutL 9 1 (Mf r c).1.length (strs (Mf r c).1) (fun u => .tuple #[u, .bool (Mf r c).2]) w) := implFirst_any r c w

set_option maxHeartbeats 2000000 in
set_option maxRecDepth 100000 in
theorem walk (w : World) (x0 : SR) (i0 : x0.I64) (a1 : Int) (i1 : I64 a1) :
    Calls Try.prog 3 #[x0.val, .int .i64 a1] w fun e w' => e = .returned (.bool true) ∧ Below w.heap.size w w' := by
  obtain ⟨q0a, q0b, q0c, q0d, q0e⟩ := x0
  simp only [SR.val] at *
  have bg := len_ok ⟨q0a, q0b, q0c, q0d, q0e⟩ i0 a1 i1
  have zg := size_le bg
  go_enter Try.func3, Try.ntmps3
  go_wp2_with fail
  obtain ⟨W0, hW0⟩ : ∃ W0, W0 = w.alloc (.cells #[.int .i64 q0a, .int .i64 q0b, .int .i64 q0c, .int .i64 q0d, .int .i64 q0e] 23) := ⟨_, rfl⟩
  have hB0 := hd (show Below w.heap.size w W0 by rw [hW0]; exact (Below.refl _ _).alloc (Nat.le_refl _) _)
  have C00 := hd (show W0.cell? ⟨w.heap.size, 0, none⟩ = some (.int .i64 q0a) by rw [hW0]; simp [go_sem])
  have C01 := hd (show W0.cell? ⟨w.heap.size, 1, none⟩ = some (.int .i64 q0b) by rw [hW0]; simp [go_sem])
  have C02 := hd (show W0.cell? ⟨w.heap.size, 2, none⟩ = some (.int .i64 q0c) by rw [hW0]; simp [go_sem])
  have C03 := hd (show W0.cell? ⟨w.heap.size, 3, none⟩ = some (.int .i64 q0d) by rw [hW0]; simp [go_sem])
  have C04 := hd (show W0.cell? ⟨w.heap.size, 4, none⟩ = some (.int .i64 q0e) by rw [hW0]; simp [go_sem])
  rw [← hW0]; clear hW0
  have hB := Below.refl W0.heap.size W0
  go_wp2_with fail
  refine (toShiftRule_agg q0a q0b q0c q0d q0e _).mono ?_; rintro e w1 ⟨rfl, hb⟩
  replace hB := below_tr hb hB
  clear hb
  go_wp2_with fail
  refine (spec_any _ ⟨q0a, q0b, q0c, q0d, q0e⟩ i0 a1 i1).mono ?_; rintro e w2 ⟨w0, rfl, ho_w0, hb⟩
  replace ho_w0 := own_mono ho_w0 hB.size
  replace hB := below_tr hb hB
  clear hb
  have c00 := below_at hB C00.out
  have c01 := below_at hB C01.out
  have c02 := below_at hB C02.out
  have c03 := below_at hB C03.out
  have c04 := below_at hB C04.out
  go_wp2_with fail
  refine (toShiftRule_agg q0a q0b q0c q0d q0e _).mono ?_; rintro e w3 ⟨rfl, hb⟩
  replace ho_w0 := own_below ho_w0 hb
  replace hB := below_tr hb hB
  clear hb
  clear c00 c01 c02 c03 c04
  go_wp2_with fail
  refine (impl_any _ ⟨q0a, q0b, q0c, q0d, q0e⟩ i0 a1 i1).mono ?_; rintro e w4 ⟨g0, rfl, ho_g0, hb⟩
  have d_w0_g0 := dj_new ho_w0 ho_g0
  replace ho_w0 := own_below ho_w0 hb
  replace ho_g0 := own_mono ho_g0 hB.size
  replace hB := below_tr hb hB
  clear hb
  go_wp2_with fail
  refine (eqStringS_b _ _ _ _ _ (own_sl ho_g0 zg) (own_sl ho_w0 zg)).mono ?_; rintro e w5 ⟨rfl, hb⟩
  replace ho_w0 := own_below ho_w0 hb
  replace ho_g0 := own_below ho_g0 hb
  replace hB := below_tr hb hB
  clear hb
  go_wp2_with fail
  have hrow := own_row ho_g0 (Nat.le_refl _)
  refine (markStringS_any _ _ _ _ 1 _ ho_g0 bg (by omega) (by omega)).mono ?_; rintro e w6 ⟨rfl, ho', hg⟩
  replace ho_w0 := own_kept ho_w0 hg d_w0_g0
  replace ho_g0 := ho'
  replace hB := below_row hg hB hrow
  clear hg hrow ho'
  go_wp2_with fail
  refine (heldStringS_b _ _ 1 _ (own_sl ho_g0 zg) bg (by omega) (by omega)).mono ?_; rintro e w7 ⟨rfl, hb⟩
  replace ho_w0 := own_below ho_w0 hb
  replace ho_g0 := own_below ho_g0 hb
  replace hB := below_tr hb hB
  clear hb
  have c00 := below_at hB C00.out
  have c01 := below_at hB C01.out
  have c02 := below_at hB C02.out
  have c03 := below_at hB C03.out
  have c04 := below_at hB C04.out
  go_wp2_with fail
  refine (toShiftRule_agg q0a q0b q0c q0d q0e _).mono ?_; rintro e w8 ⟨rfl, hb⟩
  replace ho_w0 := own_below ho_w0 hb
  replace ho_g0 := own_below ho_g0 hb
  replace hB := below_tr hb hB
  clear hb
  clear c00 c01 c02 c03 c04
  go_wp2_with fail
  refine (impl_any _ ⟨q0a, q0b, q0c, q0d, q0e⟩ i0 a1 i1).mono ?_; rintro e w9 ⟨h0, rfl, ho_h0, hb⟩
  have d_w0_h0 := dj_new ho_w0 ho_h0
  have d_g0_h0 := dj_new ho_g0 ho_h0
  replace ho_w0 := own_below ho_w0 hb
  replace ho_g0 := own_below ho_g0 hb
  replace ho_h0 := own_mono ho_h0 hB.size
  replace hB := below_tr hb hB
  clear hb
  go_wp2_with fail
  refine (eqStringS_b _ _ _ _ _ (own_sl ho_h0 zg) (own_sl ho_w0 zg)).mono ?_; rintro e w10 ⟨rfl, hb⟩
  replace ho_w0 := own_below ho_w0 hb
  replace ho_g0 := own_below ho_g0 hb
  replace ho_h0 := own_below ho_h0 hb
  replace hB := below_tr hb hB
  clear hb
  go_wp2_with fail
  refine (heldStringS_b _ _ 1 _ (own_sl ho_g0 zg) bg (by omega) (by omega)).mono ?_; rintro e w11 ⟨rfl, hb⟩
  replace ho_w0 := own_below ho_w0 hb
  replace ho_g0 := own_below ho_g0 hb
  replace ho_h0 := own_below ho_h0 hb
  replace hB := below_tr hb hB
  clear hb
  go_wp2_with fail
  go_ret
  exact ⟨rfl, below_tr hB hB0.out⟩

theorem own : ownKnob Try.prog.godebug = none := by kernel_rfl
theorem laidOut : laidOutB Try.prog = true := by kernel_rfl

set_option maxRecDepth 100000 in
theorem lifted (os : Os) (started : os.Started) (H : Type) (enc : TypeId × Value → H) :
    ReturnsInHanded {} Try.checked os 3 .any (Rows.fnExactFirstShiftsSpec.pre6 enc Try.prog Try.f3 Rows.fnExactFirstShiftsRow.domain false) (Rows.fnExactFirstShiftsSpec.post enc Try.prog Try.f3 false true false false) := by
  refine returnsInHanded_of_change (C := Try.checked) own started (by as_aux_lemma => kernel_rfl) Try.func3
    (ChangeSpec.witness6 (enc := enc) (C := Try.checked) false ⟨#[], #[.agg #[.int .i64 0, .int .i64 0, .int .i64 0, .int .i64 0, .int .i64 0], .int .i64 0], []⟩ 8 (by as_aux_lemma => kernel_rfl) (by as_aux_lemma => kernel_rfl) (by as_aux_lemma => kernel_rfl) (by as_aux_lemma => kernel_rfl)) ?_
  intro W base args ds gs before hval0 hW hcnd _
  have hval : ∀ (j : Nat) t v, Try.f3.params[j]? = some t → args[j]? = some v → Value.okWide Try.prog W .any base t v := hval0
  have hW' := hW
  obtain ⟨p, q, hA0, hV, rfl, hfz, hnd⟩ := hW
  have hA : DataW.TrodAll enc Try.prog W 0 (fun _ => true) true Try.f3.params.toList args.toList ds p := hA0
  rw [Try.params3] at hA hval
  obtain ⟨v0, vs0, d0, ds0, p0, q0, hargs, rfl, rfl, h0, r0⟩ := trodAll_cons hA
  obtain ⟨v1, vs1, d1, ds1, p1, q1, rfl, rfl, rfl, h1, r1⟩ := trodAll_cons r0
  obtain ⟨rfl, rfl, rfl⟩ := trodAll_nil r1
  obtain rfl : args = #[v0, v1] := by cases args; simp_all
  obtain ⟨rfl, rfl⟩ := trodVars_none hV
  have k0 := h0
  have lt0 : ∀ x ∈ p0, x.block < W.heap.size := by obtain ⟨m, hm⟩ := k0; exact DataW.trod_lt m _ _ _ hm
  obtain ⟨x0, i0, rfl⟩ := arg_agg5 Try.underlying23 Try.underlying2 rfl (by as_aux_lemma => kernel_rfl) (by as_aux_lemma => kernel_rfl) (hval 0 23 v0 rfl rfl) h0
  obtain ⟨a1, rfl, rfl, rfl, w1⟩ := open_int Try.underlying2 (hval 1 2 v1 rfl rfl) h1
  clear hA0 hval0
  refine (walk W x0 i0 a1 (i64_of_wf w1)).mono fun e W' ⟨he, bel⟩ => ?_
  subst he
  exact ⟨_, rfl, _, _, _, [], _, [], hW', trodAll_mk1 (shut_bool Try.underlying4 _), (trodAll_cons_mk (Below.trod laidOut (by as_aux_lemma => kernel_rfl) (of_decide_eq_true (by as_aux_lemma => kernel_rfl)) k0 bel lt0) (trodAll_cons_mk (shut_int Try.underlying2 w1) (trodAll_mk0))), rfl, bel.frame _, fun h => by cases h⟩

/-- The given statement. -/
theorem proved : Rows.FnExactFirstShiftsSaid :=
  OpenClaim.holds_of_wide 3 Try.f3 rfl rfl rfl rfl rfl rfl rfl ⟨rfl, rfl, rfl, rfl, rfl⟩ rfl rfl rfl rfl rfl (by kernel_rfl) Try.func3 (by kernel_rfl)
    (of_decide_eq_true (by kernel_rfl)) (by unfold Func.isWrapper; first | (rw [if_pos (by decide +kernel)]; kernel_rfl) | (rw [if_neg (by decide +kernel)]; exact ⟨rfl, rfl⟩))
    (fun os started H enc _ => lifted os started H enc)
#print axioms proved

end Go.Proofs.Ytmjdhignhdphpaa.lFnExactFirstShifts
