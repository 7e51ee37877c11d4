/- Whatever rule of shifts and needs are given, the program's GreedyCover and the reference's return the same texts and counts, leave the arguments alone and share no memory: the law returns true. No condition. -/
import Derived.Test.YtfhcpfikakllbaaRows
import Derived.Test.YtfhcpfikakllbaaGreedI
import Derived.Test.YtfhcpfikakllbaaGreedS
import Derived.Test.YtfhcpfikakllbaaStrS
import Derived.Test.YtfhcpfikakllbaaOpen
import Derived.Carry
namespace Go.Proofs.Ytfhcpfikakllbaa.lFnExactGreedyCover
open Go.ChangeShapes Go.WideShapes Go.ChangeAt Go.RowKit Go.Proofs.Ytfhcpfikakllbaa Plain
set_option linter.unusedVariables false
set_option linter.unusedSimpArgs false
attribute [local go_sem ↓] Go.wp_at_zero Go.wp_at_succ

theorem gM_len (r : SR) (ns : List Int) : (gM r ns).1.length ≤ 64 ∧ (gM r ns).2.1.length ≤ 64 := by
  unfold gM
  split
  · split
    · simp
    · rename_i c _
      have h1 := sel_len (allF r 64) c (allF r 64).length
      have h2 := allF_len r 64
      simp only
      omega
  · simp
theorem len_ok_0 (r : SR) (_i : r.I64) (ns : List Int) (_ : ∀ x ∈ ns, I64 x) (_ : ns.length ≤ 1048576) : (gM r ns).1.length ≤ 1048576 := by have := (gM_len r ns).1; omega
theorem len_ok_1 (r : SR) (_i : r.I64) (ns : List Int) (_ : ∀ x ∈ ns, I64 x) (_ : ns.length ≤ 1048576) : (gM r ns).2.1.length ≤ 1048576 := by have := (gM_len r ns).2; omega
theorem impl_any (w : World) (r : SR) (_i : r.I64) (v : Value) (ns : List Int) (_j : ∀ x ∈ ns, I64 x) (b0 : ns.length ≤ 1048576) (s0 : Sl w 1 v ns.length (ns.map vi)) :
    Calls Try.prog 7 #[r.val, v] w (Out3 (gM r ns).1 (gM r ns).2.1 (gM r ns).2.2 w) := by
  cases h : okG r ns with
  | false => rw [gM_no h]; exact implGreedy_no w r v ns b0 s0 h
  | true => exact implGreedy_yes w r v ns b0 s0 h
theorem spec_any (w : World) (r : SR) (_i : r.I64) (v : Value) (ns : List Int) (_j : ∀ x ∈ ns, I64 x) (b0 : ns.length ≤ 1048576) (s0 : Sl w 1 v ns.length (ns.map vi)) :
    Calls Try.prog 4 #[r.val, v] w (Out3 (gM r ns).1 (gM r ns).2.1 (gM r ns).2.2 w) := by
  by_cases h : validS r = true ∧ (ns.length : Int) = r.slots
  · exact specGreedy_yes w r v ns b0 s0 h.1 h.2
  · have hn : validS r = false ∨ ¬ (ns.length : Int) = r.slots := by
      cases hv : validS r with
      | false => exact .inl rfl
      | true => exact .inr (fun e => h ⟨hv, e⟩)
    have hk : okG r ns = false := by
      rcases hn with hv | hl
      · rw [okG, hv]; rfl
      · rw [okG, show manyIn ns r.slots r.slots 0 100 = false by
          cases hm : manyIn ns r.slots r.slots 0 100 with
          | false => rfl
          | true => obtain ⟨m1, m2, _⟩ := many_bd hm; exact absurd (by omega) hl, Bool.and_false]
    rw [gM_no hk]
    exact specGreedy_no w r v ns b0 s0 hn

set_option maxHeartbeats 2000000 in
set_option maxRecDepth 100000 in
theorem walk (w : World) (x0 : SR) (i0 : x0.I64) (v1 : Value) (x1 : List Int) (i1 : ∀ x ∈ x1, I64 x) (s1 : Sl w 1 v1 x1.length (x1.map vi)) :
    Calls Try.prog 3 #[x0.val, v1] w fun e w' => e = .returned (.bool true) ∧ Below w.heap.size w w' := by
  obtain ⟨q0a, q0b, q0c, q0d, q0e⟩ := x0
  simp only [SR.val] at *
  obtain ⟨A1, cap1, hw1, _, hr1⟩ := id s1
  have hv1 := hd hw1; clear hw1
  have hm1 := hr1.2.1
  by_cases b1 : x1.length ≤ 1048576
  rotate_left
  · have e1 := hv1.out; subst e1
    unfold maxLen at hm1
    have hx' : ¬ ((x1.length : Int) ≤ 1048576) := by omega
    go_enter Try.func3, Try.ntmps3
    go_wp2
    go_ret
    exact ⟨rfl, (Below.refl _ _).alloc (Nat.le_refl _) _⟩
  have hx1 : (x1.length : Int) ≤ 1048576 := by omega
  have z1 := size_le b1
  have bg_0 := len_ok_0 ⟨q0a, q0b, q0c, q0d, q0e⟩ i0 x1 i1 b1
  have zg_0 := size_le bg_0
  have bg_1 := len_ok_1 ⟨q0a, q0b, q0c, q0d, q0e⟩ i0 x1 i1 b1
  have zg_1 := size_le bg_1
  clear hr1 hm1
  have e1 := hv1.out; subst e1; clear hv1
  go_enter Try.func3, Try.ntmps3
  go_wp2_with fail
  obtain ⟨W0, hW0⟩ : ∃ W0, W0 = w.alloc (.cells #[.int .i64 q0a, .int .i64 q0b, .int .i64 q0c, .int .i64 q0d, .int .i64 q0e] 23) := ⟨_, rfl⟩
  have hB0 := hd (show Below w.heap.size w W0 by rw [hW0]; exact (Below.refl _ _).alloc (Nat.le_refl _) _)
  have C00 := hd (show W0.cell? ⟨w.heap.size, 0, none⟩ = some (.int .i64 q0a) by rw [hW0]; simp [go_sem])
  have C01 := hd (show W0.cell? ⟨w.heap.size, 1, none⟩ = some (.int .i64 q0b) by rw [hW0]; simp [go_sem])
  have C02 := hd (show W0.cell? ⟨w.heap.size, 2, none⟩ = some (.int .i64 q0c) by rw [hW0]; simp [go_sem])
  have C03 := hd (show W0.cell? ⟨w.heap.size, 3, none⟩ = some (.int .i64 q0d) by rw [hW0]; simp [go_sem])
  have C04 := hd (show W0.cell? ⟨w.heap.size, 4, none⟩ = some (.int .i64 q0e) by rw [hW0]; simp [go_sem])
  rw [← hW0]; clear hW0
  replace s1 := s1.below hB0.out
  have hB := Below.refl W0.heap.size W0
  go_wp2_with fail
  refine (toShiftRule_agg q0a q0b q0c q0d q0e _).mono ?_; rintro e w1 ⟨rfl, hb⟩
  replace hB := below_tr hb hB
  clear hb
  go_wp2_with fail
  refine (toInt64S_any _ x1 _ (s1.below hB) b1).mono ?_; rintro e w2 ⟨s1_, rfl, ho_s1_, hb⟩
  replace ho_s1_ := own_mono ho_s1_ hB.size
  replace hB := below_tr hb hB
  clear hb
  go_wp2_with fail
  refine (spec_any _ ⟨q0a, q0b, q0c, q0d, q0e⟩ i0 _ x1 i1 b1 (own_sl ho_s1_ z1)).mono ?_; rintro e w3 ⟨w0_0, w0_1, rfl, ho_w0_0, ho_w0_1, d_w0_0_w0_1, hb⟩
  have d_s1__w0_0 := dj_new ho_s1_ ho_w0_0
  have d_s1__w0_1 := dj_new ho_s1_ ho_w0_1
  replace ho_s1_ := own_below ho_s1_ hb
  replace ho_w0_0 := own_mono ho_w0_0 hB.size
  replace ho_w0_1 := own_mono ho_w0_1 hB.size
  replace hB := below_tr hb hB
  clear hb
  clear ho_s1_ d_s1__w0_0 d_s1__w0_1
  go_wp2_with fail
  refine (toInt64S_any _ x1 _ (s1.below hB) b1).mono ?_; rintro e w4 ⟨x1_, rfl, ho_x1_, hb⟩
  have d_w0_0_x1_ := dj_new ho_w0_0 ho_x1_
  have d_w0_1_x1_ := dj_new ho_w0_1 ho_x1_
  replace ho_w0_0 := own_below ho_w0_0 hb
  replace ho_w0_1 := own_below ho_w0_1 hb
  replace ho_x1_ := own_mono ho_x1_ hB.size
  replace hB := below_tr hb hB
  clear hb
  have c00 := below_at hB C00.out
  have c01 := below_at hB C01.out
  have c02 := below_at hB C02.out
  have c03 := below_at hB C03.out
  have c04 := below_at hB C04.out
  go_wp2_with fail
  refine (toShiftRule_agg q0a q0b q0c q0d q0e _).mono ?_; rintro e w5 ⟨rfl, hb⟩
  replace ho_w0_0 := own_below ho_w0_0 hb
  replace ho_w0_1 := own_below ho_w0_1 hb
  replace ho_x1_ := own_below ho_x1_ hb
  replace hB := below_tr hb hB
  clear hb
  clear c00 c01 c02 c03 c04
  go_wp2_with fail
  refine (impl_any _ ⟨q0a, q0b, q0c, q0d, q0e⟩ i0 _ x1 i1 b1 (own_sl ho_x1_ z1)).mono ?_; rintro e w6 ⟨g0_0, g0_1, rfl, ho_g0_0, ho_g0_1, d_g0_0_g0_1, hb⟩
  have d_w0_0_g0_0 := dj_new ho_w0_0 ho_g0_0
  have d_w0_1_g0_0 := dj_new ho_w0_1 ho_g0_0
  have d_x1__g0_0 := dj_new ho_x1_ ho_g0_0
  have d_w0_0_g0_1 := dj_new ho_w0_0 ho_g0_1
  have d_w0_1_g0_1 := dj_new ho_w0_1 ho_g0_1
  have d_x1__g0_1 := dj_new ho_x1_ ho_g0_1
  replace ho_w0_0 := own_below ho_w0_0 hb
  replace ho_w0_1 := own_below ho_w0_1 hb
  replace ho_x1_ := own_below ho_x1_ hb
  replace ho_g0_0 := own_mono ho_g0_0 hB.size
  replace ho_g0_1 := own_mono ho_g0_1 hB.size
  replace hB := below_tr hb hB
  clear hb
  go_wp2_with fail
  refine (eqStringS_b _ _ _ _ _ (own_sl ho_g0_0 zg_0) (own_sl ho_w0_0 zg_0)).mono ?_; rintro e w7 ⟨rfl, hb⟩
  replace ho_w0_0 := own_below ho_w0_0 hb
  replace ho_w0_1 := own_below ho_w0_1 hb
  replace ho_x1_ := own_below ho_x1_ hb
  replace ho_g0_0 := own_below ho_g0_0 hb
  replace ho_g0_1 := own_below ho_g0_1 hb
  replace hB := below_tr hb hB
  clear hb
  go_wp2_with fail
  refine (eqInt64S_b _ _ _ _ _ (own_sl ho_g0_1 zg_1) (own_sl ho_w0_1 zg_1)).mono ?_; rintro e w8 ⟨rfl, hb⟩
  replace ho_w0_0 := own_below ho_w0_0 hb
  replace ho_w0_1 := own_below ho_w0_1 hb
  replace ho_x1_ := own_below ho_x1_ hb
  replace ho_g0_0 := own_below ho_g0_0 hb
  replace ho_g0_1 := own_below ho_g0_1 hb
  replace hB := below_tr hb hB
  clear hb
  go_wp2_with fail
  refine (toInt64S_any _ x1 _ (s1.below hB) b1).mono ?_; rintro e w9 ⟨c1_, rfl, ho_c1_, hb⟩
  have d_w0_0_c1_ := dj_new ho_w0_0 ho_c1_
  have d_w0_1_c1_ := dj_new ho_w0_1 ho_c1_
  have d_x1__c1_ := dj_new ho_x1_ ho_c1_
  have d_g0_0_c1_ := dj_new ho_g0_0 ho_c1_
  have d_g0_1_c1_ := dj_new ho_g0_1 ho_c1_
  replace ho_w0_0 := own_below ho_w0_0 hb
  replace ho_w0_1 := own_below ho_w0_1 hb
  replace ho_x1_ := own_below ho_x1_ hb
  replace ho_g0_0 := own_below ho_g0_0 hb
  replace ho_g0_1 := own_below ho_g0_1 hb
  replace ho_c1_ := own_mono ho_c1_ hB.size
  replace hB := below_tr hb hB
  clear hb
  go_wp2_with fail
  refine (eqInt64S_b _ _ x1 x1 _ (own_sl ho_x1_ z1) (own_sl ho_c1_ z1)).mono ?_; rintro e w10 ⟨rfl, hb⟩
  replace ho_w0_0 := own_below ho_w0_0 hb
  replace ho_w0_1 := own_below ho_w0_1 hb
  replace ho_x1_ := own_below ho_x1_ hb
  replace ho_g0_0 := own_below ho_g0_0 hb
  replace ho_g0_1 := own_below ho_g0_1 hb
  replace ho_c1_ := own_below ho_c1_ hb
  replace hB := below_tr hb hB
  clear hb
  clear ho_c1_ d_w0_0_c1_ d_w0_1_c1_ d_x1__c1_ d_g0_0_c1_ d_g0_1_c1_
  go_wp2_with fail
  have hrow := own_row ho_x1_ (Nat.le_refl _)
  refine (markInt64S_any _ _ _ _ (1) _ ho_x1_ b1 (by omega) (by omega)).mono ?_; rintro e w11 ⟨rfl, ho', hg⟩
  replace ho_w0_0 := own_kept ho_w0_0 hg d_w0_0_x1_
  replace ho_w0_1 := own_kept ho_w0_1 hg d_w0_1_x1_
  replace ho_g0_0 := own_kept ho_g0_0 hg (dj_symm d_x1__g0_0)
  replace ho_g0_1 := own_kept ho_g0_1 hg (dj_symm d_x1__g0_1)
  replace ho_x1_ := ho'
  replace hB := below_row hg hB hrow
  clear hg hrow ho'
  clear ho_x1_ d_w0_0_x1_ d_w0_1_x1_ d_x1__g0_0 d_x1__g0_1
  go_wp2_with fail
  refine (eqStringS_b _ _ _ _ _ (own_sl ho_g0_0 zg_0) (own_sl ho_w0_0 zg_0)).mono ?_; rintro e w12 ⟨rfl, hb⟩
  replace ho_w0_0 := own_below ho_w0_0 hb
  replace ho_w0_1 := own_below ho_w0_1 hb
  replace ho_g0_0 := own_below ho_g0_0 hb
  replace ho_g0_1 := own_below ho_g0_1 hb
  replace hB := below_tr hb hB
  clear hb
  go_wp2_with fail
  refine (eqInt64S_b _ _ _ _ _ (own_sl ho_g0_1 zg_1) (own_sl ho_w0_1 zg_1)).mono ?_; rintro e w13 ⟨rfl, hb⟩
  replace ho_w0_0 := own_below ho_w0_0 hb
  replace ho_w0_1 := own_below ho_w0_1 hb
  replace ho_g0_0 := own_below ho_g0_0 hb
  replace ho_g0_1 := own_below ho_g0_1 hb
  replace hB := below_tr hb hB
  clear hb
  go_wp2_with fail
  have hrow := own_row ho_g0_0 (Nat.le_refl _)
  refine (markStringS_any _ _ _ _ (1) _ ho_g0_0 bg_0 (by omega) (by omega)).mono ?_; rintro e w14 ⟨rfl, ho', hg⟩
  replace ho_w0_0 := own_kept ho_w0_0 hg d_w0_0_g0_0
  replace ho_w0_1 := own_kept ho_w0_1 hg d_w0_1_g0_0
  replace ho_g0_1 := own_kept ho_g0_1 hg (dj_symm d_g0_0_g0_1)
  replace ho_g0_0 := ho'
  replace hB := below_row hg hB hrow
  clear hg hrow ho'
  go_wp2_with fail
  have hrow := own_row ho_g0_1 (Nat.le_refl _)
  refine (markInt64S_any _ _ _ _ (_) _ ho_g0_1 bg_1 (by omega) (by omega)).mono ?_; rintro e w15 ⟨rfl, ho', hg⟩
  replace ho_w0_0 := own_kept ho_w0_0 hg d_w0_0_g0_1
  replace ho_w0_1 := own_kept ho_w0_1 hg d_w0_1_g0_1
  replace ho_g0_0 := own_kept ho_g0_0 hg d_g0_0_g0_1
  replace ho_g0_1 := ho'
  replace hB := below_row hg hB hrow
  clear hg hrow ho'
  go_wp2_with fail
  refine (heldStringS_b _ _ (1) _ (own_sl ho_g0_0 zg_0) bg_0 (by omega) (by omega)).mono ?_; rintro e w16 ⟨rfl, hb⟩
  replace ho_w0_0 := own_below ho_w0_0 hb
  replace ho_w0_1 := own_below ho_w0_1 hb
  replace ho_g0_0 := own_below ho_g0_0 hb
  replace ho_g0_1 := own_below ho_g0_1 hb
  replace hB := below_tr hb hB
  clear hb
  go_wp2_with fail
  refine (heldInt64S_b _ _ (_) _ (own_sl ho_g0_1 zg_1) bg_1 (by omega) (by omega)).mono ?_; rintro e w17 ⟨rfl, hb⟩
  replace ho_w0_0 := own_below ho_w0_0 hb
  replace ho_w0_1 := own_below ho_w0_1 hb
  replace ho_g0_0 := own_below ho_g0_0 hb
  replace ho_g0_1 := own_below ho_g0_1 hb
  replace hB := below_tr hb hB
  clear hb
  have c00 := below_at hB C00.out
  have c01 := below_at hB C01.out
  have c02 := below_at hB C02.out
  have c03 := below_at hB C03.out
  have c04 := below_at hB C04.out
  go_wp2_with fail
  refine (toShiftRule_agg q0a q0b q0c q0d q0e _).mono ?_; rintro e w18 ⟨rfl, hb⟩
  replace ho_w0_0 := own_below ho_w0_0 hb
  replace ho_w0_1 := own_below ho_w0_1 hb
  replace ho_g0_0 := own_below ho_g0_0 hb
  replace ho_g0_1 := own_below ho_g0_1 hb
  replace hB := below_tr hb hB
  clear hb
  clear c00 c01 c02 c03 c04
  go_wp2_with fail
  refine (toInt64S_any _ x1 _ (s1.below hB) b1).mono ?_; rintro e w19 ⟨t1_, rfl, ho_t1_, hb⟩
  have d_w0_0_t1_ := dj_new ho_w0_0 ho_t1_
  have d_w0_1_t1_ := dj_new ho_w0_1 ho_t1_
  have d_g0_0_t1_ := dj_new ho_g0_0 ho_t1_
  have d_g0_1_t1_ := dj_new ho_g0_1 ho_t1_
  replace ho_w0_0 := own_below ho_w0_0 hb
  replace ho_w0_1 := own_below ho_w0_1 hb
  replace ho_g0_0 := own_below ho_g0_0 hb
  replace ho_g0_1 := own_below ho_g0_1 hb
  replace ho_t1_ := own_mono ho_t1_ hB.size
  replace hB := below_tr hb hB
  clear hb
  go_wp2_with fail
  refine (impl_any _ ⟨q0a, q0b, q0c, q0d, q0e⟩ i0 _ x1 i1 b1 (own_sl ho_t1_ z1)).mono ?_; rintro e w20 ⟨h0_0, h0_1, rfl, ho_h0_0, ho_h0_1, d_h0_0_h0_1, hb⟩
  have d_w0_0_h0_0 := dj_new ho_w0_0 ho_h0_0
  have d_w0_1_h0_0 := dj_new ho_w0_1 ho_h0_0
  have d_g0_0_h0_0 := dj_new ho_g0_0 ho_h0_0
  have d_g0_1_h0_0 := dj_new ho_g0_1 ho_h0_0
  have d_t1__h0_0 := dj_new ho_t1_ ho_h0_0
  have d_w0_0_h0_1 := dj_new ho_w0_0 ho_h0_1
  have d_w0_1_h0_1 := dj_new ho_w0_1 ho_h0_1
  have d_g0_0_h0_1 := dj_new ho_g0_0 ho_h0_1
  have d_g0_1_h0_1 := dj_new ho_g0_1 ho_h0_1
  have d_t1__h0_1 := dj_new ho_t1_ ho_h0_1
  replace ho_w0_0 := own_below ho_w0_0 hb
  replace ho_w0_1 := own_below ho_w0_1 hb
  replace ho_g0_0 := own_below ho_g0_0 hb
  replace ho_g0_1 := own_below ho_g0_1 hb
  replace ho_t1_ := own_below ho_t1_ hb
  replace ho_h0_0 := own_mono ho_h0_0 hB.size
  replace ho_h0_1 := own_mono ho_h0_1 hB.size
  replace hB := below_tr hb hB
  clear hb
  go_wp2_with fail
  refine (eqStringS_b _ _ _ _ _ (own_sl ho_h0_0 zg_0) (own_sl ho_w0_0 zg_0)).mono ?_; rintro e w21 ⟨rfl, hb⟩
  replace ho_w0_0 := own_below ho_w0_0 hb
  replace ho_w0_1 := own_below ho_w0_1 hb
  replace ho_g0_0 := own_below ho_g0_0 hb
  replace ho_g0_1 := own_below ho_g0_1 hb
  replace ho_t1_ := own_below ho_t1_ hb
  replace ho_h0_0 := own_below ho_h0_0 hb
  replace ho_h0_1 := own_below ho_h0_1 hb
  replace hB := below_tr hb hB
  clear hb
  go_wp2_with fail
  refine (eqInt64S_b _ _ _ _ _ (own_sl ho_h0_1 zg_1) (own_sl ho_w0_1 zg_1)).mono ?_; rintro e w22 ⟨rfl, hb⟩
  replace ho_w0_0 := own_below ho_w0_0 hb
  replace ho_w0_1 := own_below ho_w0_1 hb
  replace ho_g0_0 := own_below ho_g0_0 hb
  replace ho_g0_1 := own_below ho_g0_1 hb
  replace ho_t1_ := own_below ho_t1_ hb
  replace ho_h0_0 := own_below ho_h0_0 hb
  replace ho_h0_1 := own_below ho_h0_1 hb
  replace hB := below_tr hb hB
  clear hb
  go_wp2_with fail
  refine (heldStringS_b _ _ (1) _ (own_sl ho_g0_0 zg_0) bg_0 (by omega) (by omega)).mono ?_; rintro e w23 ⟨rfl, hb⟩
  replace ho_w0_0 := own_below ho_w0_0 hb
  replace ho_w0_1 := own_below ho_w0_1 hb
  replace ho_g0_0 := own_below ho_g0_0 hb
  replace ho_g0_1 := own_below ho_g0_1 hb
  replace ho_t1_ := own_below ho_t1_ hb
  replace ho_h0_0 := own_below ho_h0_0 hb
  replace ho_h0_1 := own_below ho_h0_1 hb
  replace hB := below_tr hb hB
  clear hb
  go_wp2_with fail
  refine (heldInt64S_b _ _ (_) _ (own_sl ho_g0_1 zg_1) bg_1 (by omega) (by omega)).mono ?_; rintro e w24 ⟨rfl, hb⟩
  replace ho_w0_0 := own_below ho_w0_0 hb
  replace ho_w0_1 := own_below ho_w0_1 hb
  replace ho_g0_0 := own_below ho_g0_0 hb
  replace ho_g0_1 := own_below ho_g0_1 hb
  replace ho_t1_ := own_below ho_t1_ hb
  replace ho_h0_0 := own_below ho_h0_0 hb
  replace ho_h0_1 := own_below ho_h0_1 hb
  replace hB := below_tr hb hB
  clear hb
  go_wp2_with fail
  go_ret
  exact ⟨rfl, below_tr hB hB0.out⟩

theorem own : ownKnob Try.prog.godebug = none := by kernel_rfl
theorem laidOut : laidOutB Try.prog = true := by kernel_rfl

set_option maxRecDepth 100000 in
theorem lifted (os : Os) (started : os.Started) (H : Type) (enc : TypeId × Value → H) :
    ReturnsInHanded {} Try.checked os 3 .any (Rows.fnExactGreedyCoverSpec.pre6 enc Try.prog Try.f3 Rows.fnExactGreedyCoverRow.domain false) (Rows.fnExactGreedyCoverSpec.post enc Try.prog Try.f3 false true false false) := by
  refine returnsInHanded_of_change (C := Try.checked) own started (by as_aux_lemma => kernel_rfl) Try.func3
    (ChangeSpec.witness6 (enc := enc) (C := Try.checked) false ⟨#[], #[.agg #[.int .i64 0, .int .i64 0, .int .i64 0, .int .i64 0, .int .i64 0], .slice none 0 0], []⟩ 8 (by as_aux_lemma => kernel_rfl) (by as_aux_lemma => kernel_rfl) (by as_aux_lemma => kernel_rfl) (by as_aux_lemma => kernel_rfl)) ?_
  intro W base args ds gs before hval0 hW hcnd _
  have hval : ∀ (j : Nat) t v, Try.f3.params[j]? = some t → args[j]? = some v → Value.okWide Try.prog W .any base t v := hval0
  have hW' := hW
  obtain ⟨p, q, hA0, hV, rfl, hfz, hnd⟩ := hW
  have hA : DataW.TrodAll enc Try.prog W 0 (fun _ => true) true Try.f3.params.toList args.toList ds p := hA0
  rw [Try.params3] at hA hval
  obtain ⟨v0, vs0, d0, ds0, p0, q0, hargs, rfl, rfl, h0, r0⟩ := trodAll_cons hA
  obtain ⟨v1, vs1, d1, ds1, p1, q1, rfl, rfl, rfl, h1, r1⟩ := trodAll_cons r0
  obtain ⟨rfl, rfl, rfl⟩ := trodAll_nil r1
  obtain rfl : args = #[v0, v1] := by cases args; simp_all
  obtain ⟨rfl, rfl⟩ := trodVars_none hV
  have k0 := h0
  have lt0 : ∀ x ∈ p0, x.block < W.heap.size := by obtain ⟨m, hm⟩ := k0; exact DataW.trod_lt m _ _ _ hm
  obtain ⟨x0, i0, rfl⟩ := arg_agg5 Try.underlying23 Try.underlying2 rfl (by as_aux_lemma => kernel_rfl) (by as_aux_lemma => kernel_rfl) (hval 0 23 v0 rfl rfl) h0
  have k1 := h1
  have lt1 : ∀ x ∈ p1, x.block < W.heap.size := by obtain ⟨m, hm⟩ := k1; exact DataW.trod_lt m _ _ _ hm
  obtain ⟨s1, len1, cap1, rfl⟩ := okWide_slice Try.underlying24 (hval 1 24 v1 rfl rfl)
  obtain ⟨x1, _, i1, w1⟩ := arg_ints Try.underlying24 Try.underlying2 (by as_aux_lemma => kernel_rfl) h1
  clear hA0 hval0
  refine (walk W x0 i0 _ x1 i1 w1).mono fun e W' ⟨he, bel⟩ => ?_
  subst he
  exact ⟨_, rfl, _, _, _, [], _, [], hW', trodAll_mk1 (shut_bool Try.underlying4 _), (trodAll_cons_mk (Below.trod laidOut (by as_aux_lemma => kernel_rfl) (of_decide_eq_true (by as_aux_lemma => kernel_rfl)) k0 bel lt0) (trodAll_cons_mk (Below.trod laidOut (by as_aux_lemma => kernel_rfl) (of_decide_eq_true (by as_aux_lemma => kernel_rfl)) k1 bel lt1) (trodAll_mk0))), rfl, bel.frame _, fun h => by cases h⟩

/-- The given statement. -/
theorem proved : Rows.FnExactGreedyCoverSaid :=
  OpenClaim.holds_of_wide 3 Try.f3 rfl rfl rfl rfl rfl rfl rfl ⟨rfl, rfl, rfl, rfl, rfl⟩ rfl rfl rfl rfl rfl (by kernel_rfl) Try.func3 (by kernel_rfl)
    (of_decide_eq_true (by kernel_rfl)) (by unfold Func.isWrapper; first | (rw [if_pos (by decide +kernel)]; kernel_rfl) | (rw [if_neg (by decide +kernel)]; exact ⟨rfl, rfl⟩))
    (fun os started H enc _ => lifted os started H enc)
#print axioms proved

end Go.Proofs.Ytfhcpfikakllbaa.lFnExactGreedyCover
