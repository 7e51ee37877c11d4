/- Whatever bytes choose jobs and orders, the program's OrderBy, CostOf, MeanFlow, SwapGain, EndsOf, IsJobPlan and IdleOf are as the law says: it returns true. No condition. -/
import Derived.Test.YtjddlgmdbkaieaaRows
import Derived.Test.YtjddlgmdbkaieaaJobQ
import Derived.Test.YtjddlgmdbkaieaaJobR
import Derived.Test.YtjddlgmdbkaieaaJobE
import Derived.Test.YtjddlgmdbkaieaaJobF
import Derived.Test.YtjddlgmdbkaieaaJobG
import Derived.Test.YtjddlgmdbkaieaaStepList
import Derived.Deep.CutRange
import Derived.Test.YtjddlgmdbkaieaaOpen
import Derived.Test.YtjddlgmdbkaieaaOpen2
namespace Go.Proofs.Ytjddlgmdbkaieaa.lFnRules
open Go.ChangeShapes Go.WideShapes Go.ChangeAt Go.RowKit Go.Proofs.Ytjddlgmdbkaieaa Plain
set_option linter.unusedVariables false
set_option linter.unusedSimpArgs false
attribute [local go_sem ↓] Go.wp_at_zero Go.wp_at_succ

theorem drawn_ok {l : List Q4} (h : ∀ q ∈ l, jobD q) : (∀ q ∈ l, jobOk q) ∧ (∀ q ∈ l, (1 ≤ q.a ∧ q.a ≤ 9) ∧ 0 ≤ q.d ∧ q.d ≤ 10000) ∧ ∀ q ∈ l, q.a ≤ 9 := by
  refine ⟨fun q hq => ?_, fun q hq => ?_, fun q hq => ?_⟩ <;>
  · obtain ⟨⟨a0, a1⟩, ⟨b0, b1⟩, ⟨c0, c1⟩, d0, d1⟩ := h q hq
    first | omega | exact ⟨⟨by omega, by omega⟩, by omega, by omega⟩ | exact ⟨⟨by omega, by omega⟩, ⟨by omega, by omega⟩, ⟨by omega, by omega⟩, by omega, by omega⟩
theorem best_w {l : List Q4} {n : Nat} (h : ∀ q ∈ l, jobD q) (hl : l.length = n) (n1 : 1 ≤ n) (hf : freeL l n) {o q : Nat → Nat} (ho : Perm o n) (hq : Perm q n) (hs : ∀ a b, a < b → b < n → wK l (o a : Int) ≤ wK l (o b : Int)) : costO 1 l o n ≤ costO 1 l q n := by
  refine best_one (drawn_ok h).1 n1 hf ho hq fun a b hab hb => ?_
  have e := hs a b hab hb
  rw [wK, wK, Int.toNat_natCast, Int.toNat_natCast] at e
  have bd : ∀ i, i < n → 1 ≤ (jobAt l i).a ∧ (jobAt l i).a ≤ 9 := fun i hi => by
    rw [jobAt_at (List.getElem?_eq_getElem (show i < l.length by omega))]
    exact ((drawn_ok h).2.1 _ (List.getElem_mem _)).1
  have ba := bd (o a) (ho.lt a (by omega))
  have bb := bd (o b) (ho.lt b hb)
  have := w_lt (x := (jobAt l (o b)).d) (y := (jobAt l (o a)).d) bb.1 bb.2 ba.1 ba.2
  omega
theorem best_d {l : List Q4} {n : Nat} (h : ∀ q ∈ l, jobD q) (n1 : 1 ≤ n) (hf : freeL l n) {o q : Nat → Nat} (ho : Perm o n) (hq : Perm q n) (hs : ∀ a b, a < b → b < n → dK l (o a : Int) ≤ dK l (o b : Int)) : costO 2 l o n ≤ costO 2 l q n :=
  best_two (drawn_ok h).1 n1 hf ho hq fun a b hab hb => by
    have e := hs a b hab hb
    rw [dK, dK, Int.toNat_natCast, Int.toNat_natCast] at e
    exact e
theorem best_t {l : List Q4} {n : Nat} (h : ∀ q ∈ l, jobD q) (hf : freeL l n) {o q : Nat → Nat} (ho : Perm o n) (hq : Perm q n) (hs : ∀ a b, a < b → b < n → tK l (o a : Int) ≤ tK l (o b : Int)) : flowO l o n n ≤ flowO l q n n :=
  best_flow (drawn_ok h).1 hf ho hq fun a b hab hb => by
    have e := hs a b hab hb
    rw [tK, tK, Int.toNat_natCast, Int.toNat_natCast] at e
    exact e
theorem turn_nn {d : List Int} {n x : Nat} (hl : d.length = n) (h : ∀ k, k < n → 0 ≤ d.getD k 0) (hx : x + 1 < n) : ∀ k, k < n → 0 ≤ (turnL d x).getD k 0 := fun k hk => by
  rw [turnL_at (by omega)]
  split
  · exact h _ hx
  · split
    · exact h _ (by omega)
    · exact h _ hk
set_option maxHeartbeats 8000000 in
set_option maxRecDepth 100000 in
theorem walk (w : World) (v0 : Value) (x0 : List Nat) (i0 : ∀ x ∈ x0, x < 256) (s0 : Sl w 1 v0 x0.length (bys x0)) (v1 : Value) (x1 : List Nat) (i1 : ∀ x ∈ x1, x < 256) (s1 : Sl w 1 v1 x1.length (bys x1)) :
    Calls Try.prog 3 #[v0, v1] w fun e w' => e = .returned (.bool true) ∧ Below w.heap.size w w' := by
  have L := hd (r8Long_any v0 v1 x0 x1 w s0 s1)
  have AM := hd (fun w' (h : Below w.heap.size w w') k n hn hn2 hk => r8At_any v1 x1 i1 k n hn hn2 hk w' (s1.below h))
  have RJ := hd (fun w' (h : Below w.heap.size w w') N e1 e2 fr => R8Jobs_any v0 x0 i0 w' (s0.below h) N e1 e2 fr)
  have RO := hd (fun w' (h : Below w.heap.size w w') N e1 e2 => R8Order_any v1 x1 i1 w' (s1.below h) N e1 e2)
  clear s0 s1 i0 i1
  go_enter Try.func3, Try.ntmps3
  go_wp2_with fail
  go_at_call 4
  refine L.out.mono ?_; rintro e w' ⟨rfl, hw⟩; replace hw := hw.symm; subst hw
  generalize (decide (48 < x0.length) || decide (48 < x1.length)) = b
  cases b with
  | true =>
    go_wp2
    go_ret
    exact ⟨rfl, Below.refl _ _⟩
  | false =>
  clear L
  go_wp2_with fail
  go_at_call 5
  refine (AM.out w (Below.refl _ _) 40 7 (by omega) (by omega) (by omega)).mono ?_; rintro e w' ⟨rfl, hw⟩; replace hw := hw.symm; subst hw
  have hq := r8F_lt x1 40 (n := 7) (by omega)
  generalize r8F x1 40 7 = q0 at *
  obtain ⟨n, hn⟩ : ∃ n : Nat, (n : Int) = 2 + (q0 : Int) := ⟨2 + q0, by push_cast; rfl⟩
  have n2 : 2 ≤ n := by omega
  have n8 : n ≤ 8 := by omega
  have hwn : IntKind.i64.wrap (2 + (q0 : Int)) = (n : Int) := by rw [IntWalk.i64_in _ (by omega), hn]
  clear hn hq
  go_wp2_with fail
  go_at_call 6
  refine (RJ.out w (Below.refl _ _) n (by omega) (by omega) true).mono ?_
  rintro e w1 ⟨l, u, rfl, hl, hlo, hfr, ho, hb1⟩
  clear hwn
  have HD := hd hlo
  have HFR := hd (hfr rfl)
  have HL := hd hl
  have HB1 := hd hb1
  have HJ1 := hd (show JobsAt w1 u l n from ⟨own_sl ho (by unfold maxLen; omega), hl, (drawn_ok hlo).1, by omega, by omega⟩)
  clear ho hb1 hlo hfr hl
  go_wp2_with fail
  go_at_call 7
  refine (RO.out w1 HB1.out n (by omega) (by omega)).mono ?_
  rintro e w2 ⟨d0, v, rfl, e1, e2, e3, ho, hb2⟩
  have HB2 := hd (below_tr hb2 HB1.out)
  have HJ := hd (HJ1.out.below hb2)
  have HO0 := hd (show OrdAt w2 v d0 n from ⟨own_sl ho (by unfold maxLen; omega), e1, fun k hk => (e2 k (by omega)).1, perm_of e1 e2 e3⟩)
  clear e1 e2 e3 ho hb2 HB1 HJ1 RO
  go_wp2_with fail
  go_at_call 8
  refine (OrderByW_any u l n (by omega) (drawn_ok HD.out).2.1 w2 HJ.out).mono ?_
  rintro e w3 ⟨v3, d3, rfl, ho, f1, f2, f3, f4, hb3⟩
  have B3 := hd hb3
  have HO3 := hd (show OrdAt w3 v3 d3 n from ⟨own_sl ho (by unfold maxLen; omega), f1, f2, f3⟩)
  have HS3 := hd f4
  clear ho f1 f2 f3 f4 hb3
  go_wp2_with fail
  go_at_call 8
  refine (OrderByD_any u l n (by omega) w3 (HJ.out.below B3.out)).mono ?_
  rintro e w4 ⟨v4, d4, rfl, ho, f1, f2, f3, f4, hb4⟩
  have B4 := hd (below_tr hb4 B3.out)
  have HO3' := hd (HO3.out.below hb4)
  have HO4 := hd (show OrdAt w4 v4 d4 n from ⟨own_sl ho (by unfold maxLen; omega), f1, f2, f3⟩)
  have HS4 := hd f4
  clear ho f1 f2 f3 f4 hb4 B3 HO3
  go_wp2_with fail
  go_at_call 8
  refine (OrderByT_any u l n (by omega) w4 (HJ.out.below B4.out)).mono ?_
  rintro e w5 ⟨v5, d5, rfl, ho, f1, f2, f3, f4, hb5⟩
  have B5 := hd (below_tr hb5 B4.out)
  have HO3 := hd (HO3'.out.below hb5)
  have HO4' := hd (HO4.out.below hb5)
  have HO5 := hd (show OrdAt w5 v5 d5 n from ⟨own_sl ho (by unfold maxLen; omega), f1, f2, f3⟩)
  have HS5 := hd f4
  clear ho f1 f2 f3 f4 hb5 B4 HO3' HO4
  have HO4 := HO4'
  clear HO4'
  have C0 := hd (fun w' (hb : Below w5.heap.size w5 w') kind hk => CostOf_any u v l d0 n kind hk w' (HJ.out.below (below_tr hb B5.out)) (HO0.out.below (below_tr hb B5.out)))
  have C3 := hd (fun w' (hb : Below w5.heap.size w5 w') kind hk => CostOf_any u v3 l d3 n kind hk w' (HJ.out.below (below_tr hb B5.out)) (HO3.out.below hb))
  have C4 := hd (fun w' (hb : Below w5.heap.size w5 w') kind hk => CostOf_any u v4 l d4 n kind hk w' (HJ.out.below (below_tr hb B5.out)) (HO4.out.below hb))
  have M0 := hd (fun w' (hb : Below w5.heap.size w5 w') => MeanFlow_any u v l d0 n (by omega) (by omega) (flow_small (drawn_ok HD.out).1 n8 HFR.out (drawn_ok HD.out).2.2 HO0.out.perm) w' (HJ.out.below (below_tr hb B5.out)) (HO0.out.below (below_tr hb B5.out)))
  have M5 := hd (fun w' (hb : Below w5.heap.size w5 w') => MeanFlow_any u v5 l d5 n (by omega) (by omega) (flow_small (drawn_ok HD.out).1 n8 HFR.out (drawn_ok HD.out).2.2 HO5.out.perm) w' (HJ.out.below (below_tr hb B5.out)) (HO5.out.below hb))
  go_wp2_with fail
  go_at_call 9
  refine (C3.out w5 (Below.refl _ _) 1 (by omega)).mono ?_; rintro e w6 ⟨rfl, hb6⟩
  have B6 := hd hb6
  clear hb6
  go_wp2_with fail
  go_at_call 9
  refine (C0.out w6 B6.out 1 (by omega)).mono ?_; rintro e w7 ⟨rfl, hb7⟩
  have B7 := hd (below_tr hb7 B6.out)
  clear hb7 B6
  go_wp2_with fail
  go_at_call 9
  refine (C4.out w7 B7.out 2 (by omega)).mono ?_; rintro e w8 ⟨rfl, hb8⟩
  have B8 := hd (below_tr hb8 B7.out)
  clear hb8 B7
  go_wp2_with fail
  go_at_call 9
  refine (C0.out w8 B8.out 2 (by omega)).mono ?_; rintro e w9 ⟨rfl, hb9⟩
  have B9 := hd (below_tr hb9 B8.out)
  clear hb9 B8
  go_wp2_with fail
  go_at_call 10
  refine (M5.out w9 B9.out).mono ?_; rintro e w10 ⟨rfl, hb10⟩
  have B10 := hd (below_tr hb10 B9.out)
  clear hb10 B9
  go_wp2_with fail
  go_at_call 10
  refine (M0.out w10 B10.out).mono ?_; rintro e w11 ⟨rfl, hb11⟩
  have B11 := hd (below_tr hb11 B10.out)
  clear hb11 B10 M0 M5
  have g1 : ¬ costO 1 l (ordF d0) n < costO 1 l (ordF d3) n := by
    have := best_w HD.out HL.out (by omega) HFR.out HO3.out.perm HO0.out.perm HS3.out
    omega
  have g2 : ¬ costO 2 l (ordF d0) n < costO 2 l (ordF d4) n := by
    have := best_d HD.out (by omega) HFR.out HO4.out.perm HO0.out.perm HS4.out
    omega
  have t0 := flow_small (drawn_ok HD.out).1 n8 HFR.out (drawn_ok HD.out).2.2 HO0.out.perm
  have t5 := flow_small (drawn_ok HD.out).1 n8 HFR.out (drawn_ok HD.out).2.2 HO5.out.perm
  have t6 := best_t HD.out HFR.out HO5.out.perm HO0.out.perm HS5.out
  generalize flowO l (ordF d0) n n = F0 at *
  generalize flowO l (ordF d5) n n = F5 at *
  have g3 := d_gt (n := n) (by omega) (by omega) (show F5.toNat ≤ F0.toNat by omega) (by omega)
  have q1 := d_tab n (by omega) F5.toNat (by omega) (by omega)
  have q2 := d_tab n (by omega) F0.toNat (by omega) (by omega)
  have r1 := fun w => run_convert_float_float (P := Try.prog) w 33 37 .f32 .f64 _ _ (by rw [Try.underlying33]; rfl) Try.underlying37 q1.1
  have r2 := fun w => run_convert_float_float (P := Try.prog) w 33 37 .f32 .f64 _ _ (by rw [Try.underlying33]; rfl) Try.underlying37 q2.1
  have r3 := fun w => run_float_arith (P := Try.prog) w .add 37 .f64 _ _ _ q2.2.1
  clear q1 q2 t0 t5 t6
  generalize aW F0.toNat n = y2 at *
  generalize dW F0.toNat n = y1 at *
  generalize mW F0.toNat n = y0 at *
  generalize dW F5.toNat n = z1 at *
  generalize mW F5.toNat n = z0 at *
  have K1 := hd (rfl : costO 1 l (ordF d0) n = costO 1 l (ordF d0) n)
  generalize costO 1 l (ordF d0) n = a0 at *
  generalize costO 1 l (ordF d3) n = a3 at *
  generalize costO 2 l (ordF d0) n = b0 at *
  generalize costO 2 l (ordF d4) n = b4 at *
  have IO3 := hd (fun w' (hb : Below w5.heap.size w5 w') => IsOrder_any v3 d3 n w' (HO3.out.below hb) (by omega) (by omega))
  have IO4 := hd (fun w' (hb : Below w5.heap.size w5 w') => IsOrder_any v4 d4 n w' (HO4.out.below hb) (by omega) (by omega))
  have IO5 := hd (fun w' (hb : Below w5.heap.size w5 w') => IsOrder_any v5 d5 n w' (HO5.out.below hb) (by omega) (by omega))
  clear K1
  --@a
  go_wp2_with fail
  go_at_call 11
  refine (IO3.out w11 B11.out).mono ?_; rintro e w12 ⟨rfl, hb12⟩
  have B12 := hd (below_tr hb12 B11.out)
  clear hb12 B11
  go_wp2_with fail
  go_at_call 11
  refine (IO4.out w12 B12.out).mono ?_; rintro e w13 ⟨rfl, hb13⟩
  have B13 := hd (below_tr hb13 B12.out)
  clear hb13 B12
  go_wp2_with fail
  go_at_call 11
  refine (IO5.out w13 B13.out).mono ?_; rintro e w14 ⟨rfl, hb14⟩
  have B14 := hd (below_tr hb14 B13.out)
  clear hb14 B13 IO3 IO4 IO5
  go_upto_region 17 with fail
  clear g1 g2 g3 r1 r2 r3
  have S3 := hd (fun w' (hb : Below w5.heap.size w5 w') (k : Nat) (hk : k + 1 < n) => (show ∃ z : Int, z ≤ 0 ∧ Calls Try.prog 12 #[u, v3, .int .i64 k, .int .i64 1] w' fun r w'' => r = .returned (.tuple #[.int .i64 z, .bool true]) ∧ Below w'.heap.size w' w'' from
    ⟨_, by
      have := best_w HD.out HL.out (by omega) HFR.out HO3.out.perm (turnL_perm HO3.out.len HO3.out.perm hk) HS3.out
      omega, SwapGain_any u v3 l d3 n 1 k (by omega) hk w' (HJ.out.below (below_tr hb B5.out)) (HO3.out.below hb)⟩))
  have S4 := hd (fun w' (hb : Below w5.heap.size w5 w') (k : Nat) (hk : k + 1 < n) => (show ∃ z : Int, z ≤ 0 ∧ Calls Try.prog 12 #[u, v4, .int .i64 k, .int .i64 2] w' fun r w'' => r = .returned (.tuple #[.int .i64 z, .bool true]) ∧ Below w'.heap.size w' w'' from
    ⟨_, by
      have := best_d HD.out (by omega) HFR.out HO4.out.perm (turnL_perm HO4.out.len HO4.out.perm hk) HS4.out
      omega, SwapGain_any u v4 l d4 n 2 k (by omega) hk w' (HJ.out.below (below_tr hb B5.out)) (HO4.out.below hb)⟩))
  clear HS3 HS4 HS5 C3 C4
  go_wp2
  go_loopw [26] (fun iv wr => ∃ k : Nat, k + 1 ≤ n ∧ iv = .int .i64 k ∧ Hid (Below w5.heap.size w5 wr)) (fun iv _ => n - (intOf iv).toNat)
  case atStart => exact ⟨0, by omega, rfl, B14⟩
  case round =>
    clear B14
    obtain ⟨k, hk, rfl, HB⟩ := hrel
    have hwk : IntKind.i64.wrap ((k : Int) + 1) = ((k + 1 : Nat) : Int) := by rw [IntWalk.i64_in _ (by omega)]; push_cast; rfl
    by_cases hlt : k + 1 < n
    · have hlt2 : ((k + 1 : Nat) : Int) < (n : Int) := Int.ofNat_lt.2 hlt
      obtain ⟨z3, hz3, G3⟩ := S3.out wr HB.out k hlt
      go_wp2_with fail
      go_at_call 12
      refine G3.mono ?_; rintro e wa ⟨rfl, hba⟩
      have BA := hd (below_tr hba HB.out)
      clear hba G3 HB
      obtain ⟨z4, hz4, G4⟩ := S4.out wa BA.out k hlt
      go_wp2_with fail
      go_at_call 12
      refine G4.mono ?_; rintro e wb ⟨rfl, hbb⟩
      have BB := hd (below_tr hbb BA.out)
      clear hbb G4 BA
      have n3 : ¬ 0 < z3 := by omega
      have n4 : ¬ 0 < z4 := by omega
      clear hz3 hz4
      go_wp2
      go_roundw
      case rel => exact ⟨k + 1, by omega, by go_num, BB⟩
      case measure => simp [intOf]; omega
    · have hk1 : k + 1 = n := by omega
      have hlt2 : ¬ ((k + 1 : Nat) : Int) < (n : Int) := by omega
      clear S3 S4 hlt hk
      go_wp2_with fail
      go_at_call 5
      have BW := hd (below_tr (below_tr HB.out B5.out) HB2.out)
      refine (AM.out wr BW.out 41 5 (by omega) (by omega) (by omega)).mono ?_; rintro e w' ⟨rfl, hw⟩; replace hw := hw.symm; subst hw
      have hq1 := r8F_lt x1 41 (n := 5) (by omega)
      generalize r8F x1 41 5 = kd at *
      clear hwk hlt2
      have hwn : IntKind.i64.wrap ((n : Int) - 1) = ((n - 1 : Nat) : Int) := by rw [IntWalk.i64_in _ (by omega)]; omega
      go_wp2_with fail
      go_at_call 5
      refine (AM.out wr BW.out 42 (n - 1) (by omega) (by omega) (by omega)).mono ?_; rintro e w' ⟨rfl, hw⟩; replace hw := hw.symm; subst hw
      have hq2 := r8F_lt x1 42 (n := n - 1) (by omega)
      generalize r8F x1 42 (n - 1) = x at *
      clear AM hwn
      have hx1 : x + 1 < n := by omega
      obtain ⟨AV, cV, rfl, _, hrV⟩ := HO0.out.sl
      obtain ⟨bv, ov, rfl, hcv0⟩ := hrV.int (show 0 < n by omega)
      have hbv : bv < w2.heap.size := block_lt_of_cell hcv0
      have HRV := hd hrV
      have HBr := hd (below_tr HB.out B5.out)
      clear hrV hcv0 hq2
      go_upto_region 27 with (first | (refine wpList_app_list _ rfl _ _ rfl _ rfl bv ov n _ d0 rfl (HRV.out.below (below_tr ((Below.refl _ _).alloc (Nat.le_refl _) _) HBr.out)) (by omega) (by omega) ?_; intro v6 w6 ho6 hb6))
      have HX2 := hd (below_tr hb6 ((Below.refl _ wr).alloc (Nat.le_refl _) (.cells #[] 2)))
      obtain ⟨g, cg, rfl, hg0, hg1⟩ := own_form ho6 (by omega)
      have HO6 := hd (own_mono ho6 (show wr.heap.size ≤ _ by simp))
      have HB6 := hd (below_tr HX2.out HB.out)
      have hgw : wr.heap.size ≤ g := by have : wr.heap.size ≤ (wr.alloc (.cells #[] 2)).heap.size := by simp
                                        omega
      have hw2r : w2.heap.size ≤ wr.heap.size := HBr.out.size
      have HGW := hd (show w5.heap.size ≤ g by have := HB.out.size; omega)
      have hbg : bv ≠ g := by omega
      clear hb6 hg0 hg1 ho6 HX2
      obtain ⟨_, _, e0, cx⟩ := (HRV.out.below (below_tr HB6.out B5.out)).int (show x < n by omega)
      cases e0
      obtain ⟨_, _, e0, cy⟩ := (HRV.out.below (below_tr HB6.out B5.out)).int hx1
      cases e0
      have HT := hd (show ((d0.map vi).set x (.int .i64 (d0.getD (x + 1) 0))).set (x + 1) (.int .i64 (d0.getD x 0)) = (turnL d0 x).map vi by rw [turnL, List.map_set, List.map_set]; rfl)
      obtain ⟨y, hy⟩ : ∃ y, y = x + 1 := ⟨_, rfl⟩
      have hwx : IntKind.i64.wrap ((x : Int) + 1) = (y : Int) := by rw [IntWalk.i64_in _ (by omega), hy]; push_cast; rfl
      rw [← hy] at cy HT
      have hx2 : (x : Int) < (n : Int) := by omega
      have hy2 : (y : Int) < (n : Int) := by omega
      have hx3 : x < n := by omega
      have hy3 : y < n := by omega
      have HY := hd hy
      clear hy HB
      go_wp2_with (first
        | ((with_reducible refine wpList_store_own _ wr.heap.size 2 1 n cg g _ HO6.out size_int x (.int .i64 (d0.getD y 0)) ?_ ?_ ?_ ?_ ?_); exact rfl; exact rfl; exact rfl; omega; intro w7 ho7 hg7; have cx7 := hg7.cell cx (by simp; omega))
        | ((with_reducible refine wpList_store_own _ wr.heap.size 2 1 n cg g _ ho7 size_int y (.int .i64 (d0.getD x 0)) ?_ ?_ ?_ ?_ ?_); exact rfl; exact rfl; exact rfl; omega; intro w8 ho8 hg8))
      have HO8 := hd (show w8.ownsRow wr.heap.size 2 1 (.slice (some ⟨g, 0, none⟩) n cg) n ((turnL d0 x).map vi) by rw [← HT.out]; exact ho8)
      have HB8 := hd (below_row (hg7.trans hg8) HB6.out (fun k e => by cases e; exact HGW.out))
      have B8 := hd (below_tr HB8.out B5.out)
      have HJ8 := hd (HJ.out.below B8.out)
      have HO08 := hd (HO0.out.below B8.out)
      have HOX := hd (show OrdAt w8 (.slice (some ⟨g, 0, none⟩) n cg) (turnL d0 x) n from ⟨own_sl HO8.out (by unfold maxLen; omega), by rw [turnL_len, HO0.out.len], turn_nn HO0.out.len HO0.out.nn hx1, turnL_perm HO0.out.len HO0.out.perm hx1⟩)
      clear ho7 hg7 ho8 hg8 cx cy cx7 HO6 HB6 HO8 hwx HT
      have b1 := costO_bd (kind := kd) (drawn_ok HD.out).1 HO08.out.perm.lt (show n ≤ 24 by omega)
      have b2 := costO_bd (kind := kd) (drawn_ok HD.out).1 HOX.out.perm.lt (show n ≤ 24 by omega)
      have G1 := hd (SwapGain_any u (.slice (some ⟨bv, ov, none⟩) n cV) l d0 n kd x (by omega) hx1 w8 HJ8.out HO08.out)
      have G2 := hd (fun w' hb => CostOf_any u (.slice (some ⟨bv, ov, none⟩) n cV) l d0 n kd (by omega) w' (HJ8.out.below hb) (HO08.out.below hb))
      have G3 := hd (fun w' hb => CostOf_any u (.slice (some ⟨g, 0, none⟩) n cg) l (turnL d0 x) n kd (by omega) w' (HJ8.out.below hb) (HOX.out.below hb))
      generalize costO kd l (ordF d0) n = c1 at *
      generalize costO kd l (ordF (turnL d0 x)) n = c2 at *
      have hwz : IntKind.i64.wrap (c1 - c2) = c1 - c2 := IntWalk.i64_in _ (by omega)
      clear b1 b2
      go_wp2_with fail
      go_at_call 12
      refine G1.out.mono ?_; rintro e wc1 ⟨rfl, hb⟩
      have D1 := hd hb
      clear hb G1
      go_wp2_with fail
      go_at_call 9
      refine (G2.out wc1 D1.out).mono ?_; rintro e wc2 ⟨rfl, hb⟩
      have D2 := hd (below_tr hb D1.out)
      clear hb G2 D1
      go_wp2_with fail
      go_at_call 9
      refine (G3.out wc2 D2.out).mono ?_; rintro e wc3 ⟨rfl, hb⟩
      have D3 := hd (below_tr hb D2.out)
      have D3w := hd (below_tr D3.out (below_tr B8.out HB2.out))
      clear hb G3 D2
      go_wp2_with fail
      go_at_call 6
      refine (RJ.out wc3 D3w.out n (by omega) (by omega) false).mono ?_
      rintro e wL ⟨l2, u2, rfl, hl2, hlo2, _, ho2, hbL⟩
      have HD2 := hd (drawn_ok hlo2).1
      have DL := hd (below_tr hbL D3.out)
      have HJL := hd (show JobsAt wL u2 l2 n from ⟨own_sl ho2 (by unfold maxLen; omega), hl2, (drawn_ok hlo2).1, by omega, by omega⟩)
      have HOL := hd (HO08.out.below DL.out)
      have BL := hd (below_tr hbL D3w.out)
      have HP := hd HO0.out.perm
      clear ho2 hbL hlo2 hl2 RJ D3 D3w hwz HJ8 HOX HO08 HJ HD HFR HL HO3 HO4 HO5 C0 B5 HB2
      go_wp2_with fail
      go_at_call 13
      refine (EndsOf_any u2 _ l2 d0 n wL HJL.out HOL.out).mono ?_
      rintro e wE ⟨ue, rfl, hoe, hbE⟩
      obtain ⟨ge, ce, rfl, hge0, hge1⟩ := own_form hoe (by omega)
      have HRE := hd (show Rd wE 1 (some ⟨ge, 0, none⟩) n ((endsL l2 (ordF d0) n n).map vi) by
        obtain ⟨_, _, e9, _, hr⟩ := own_sl hoe (by unfold maxLen; omega)
        cases e9
        exact hr)
      have DE := hd hbE
      clear hoe hbE hge0
      go_wp2_with fail
      go_at_call 9
      refine (CostOf_any u2 _ l2 d0 n 0 (by omega) wE (HJL.out.below DE.out) (HOL.out.below DE.out)).mono ?_
      rintro e wF ⟨rfl, hbF⟩
      rw [cost_zero HD2.out HP.out (by omega)]
      have DF := hd (below_tr hbF DE.out)
      have HREF := hd (HRE.out.below hbF)
      have HJF := hd (HJL.out.below DF.out)
      have HOF := hd (HOL.out.below DF.out)
      have BF := hd (below_tr DF.out BL.out)
      clear hbF HRE DE DF HJL HOL BL
      obtain ⟨AU, cU, rfl, _, hrU⟩ := HJF.out.sl
      obtain ⟨_, _, e9, _, hrO⟩ := HOF.out.sl
      cases e9
      have HRU := hd hrU
      have HRO := hd hrO
      have EB := hd (fun k => endF_bd HD2.out (ordF d0) k)
      have SB := hd (fun k => sumN_bd (f := fun m => (jobAt l2 (ordF d0 m)).a) (n := k) (M := 10000) (fun m _ => by have := jobAt_ok HD2.out (ordF d0 m); rw [jobOk] at this; omega))
      clear hrU hrO
      --@b
      go_wp2_with (at_make; go_must (refine wpList_make_int _ rfl _ rfl _ _ n rfl rfl (by omega) ?_); intro wm hom hbm)
      have HOM := hd (show wm.ownsRow wF.heap.size 2 1 (.slice (some ⟨wF.heap.size, 0, none⟩) n n) n ((begsL l2 (ordF d0) n 0).map vi) by rw [begsL, List.map_replicate]; exact hom)
      have HBM := hd hbm
      clear hom hbm
      obtain ⟨R, hR⟩ : ∃ R, R = wF.heap.size := ⟨_, rfl⟩
      have HRR := hd hR
      rw [← hR] at HOM ⊢
      clear hR
      go_loopw [45, 47, 48] (fun nv sv iv wr => ∃ k : Nat, k ≤ n ∧ iv = .int .i64 k ∧ nv = .int .i64 (endF l2 (ordF d0) k) ∧ sv = .int .i64 (sumN (fun m => (jobAt l2 (ordF d0 m)).a) k) ∧ Hid (wr.ownsRow R 2 1 (.slice (some ⟨R, 0, none⟩) n n) n ((begsL l2 (ordF d0) n k).map vi)) ∧ Hid (Below wF.heap.size wF wr)) (fun _ _ iv _ => n - (intOf iv).toNat)
      case atStart => exact ⟨0, by omega, rfl, rfl, rfl, HOM, HBM⟩
      case round =>
        clear HOM HBM
        obtain ⟨k, hk, rfl, rfl, rfl, HO, HB⟩ := hrel
        by_cases hlt : k < n
        · have k2 : (k : Int) < (n : Int) := Int.ofNat_lt.2 hlt
          obtain ⟨_, _, e0, co⟩ := (HRO.out.below HB.out).int hlt
          cases e0
          rw [HOF.out.cast hlt] at co
          have hj := HP.out.lt k hlt
          obtain ⟨bu, ou, qa, qb, qc, qd, rfl, hq, j0, j1, j2, j3⟩ := (HRU.out.below HB.out).q4 hj
          obtain ⟨_, _, e0, ce'⟩ := (HREF.out.below HB.out).int hj
          cases e0
          rw [endsL_at l2 HP.out n (Nat.le_refl _) k hlt, Nat.zero_add] at ce'
          obtain ⟨⟨a0, a1⟩, ⟨b0, b1⟩, _⟩ := HJF.out.at hq.out
          simp only at a0 a1 b0 b1
          have eb := EB.out k
          have eb1 := EB.out (k + 1)
          have sb := SB.out k
          have he : (if endF l2 (ordF d0) k < qb then qb else endF l2 (ordF d0) k) + qa = endF l2 (ordF d0) (k + 1) := by rw [endF, jobAt_at hq.out, max_if]
          have HM := hd (show ((begsL l2 (ordF d0) n k).map vi).set (ordF d0 k) (.int .i64 (endF l2 (ordF d0) (k + 1) - qa)) = (begsL l2 (ordF d0) n (k + 1)).map vi by rw [begsL, List.map_set, jobAt_at hq.out]; rfl)
          have HS := hd (show sumN (fun m => (jobAt l2 (ordF d0 m)).a) (k + 1) = sumN (fun m => (jobAt l2 (ordF d0 m)).a) k + qa by rw [sumN, jobAt_at hq.out])
          have hbe : bu < wF.heap.size := by
            have h1 := (HRU.out.q4 hj)
            obtain ⟨_, _, _, _, _, _, e9, _, c9, _⟩ := h1
            cases e9
            exact block_lt_of_cell c9
          have hgeF : ge < wF.heap.size := by
            obtain ⟨_, _, e9, c9⟩ := HREF.out.int hj
            cases e9
            exact block_lt_of_cell c9
          have hbuR : bu ≠ R := by have := HRR.out; omega
          have hgeR : ge ≠ R := by have := HRR.out; omega
          clear hbe hgeF j2 j3 hq
          generalize ordF d0 k = j at *
          obtain ⟨e1, he1⟩ : ∃ e1, e1 = endF l2 (ordF d0) (k + 1) := ⟨_, rfl⟩
          rw [← he1] at he ce' HM eb1
          have HE1 := hd he1
          clear he1
          obtain ⟨y0, hy0⟩ : ∃ y0, y0 = endF l2 (ordF d0) k := ⟨_, rfl⟩
          rw [← hy0] at he eb ⊢
          obtain ⟨sm, hsm⟩ : ∃ sm, sm = sumN (fun m => (jobAt l2 (ordF d0 m)).a) k := ⟨_, rfl⟩
          rw [← hsm] at HS sb ⊢
          have hw1 : IntKind.i64.wrap ((if y0 < qb then qb else y0) + qa) = e1 := by rw [he]; exact IntWalk.i64_in _ (by omega)
          have hw2 : IntKind.i64.wrap (e1 - qa) = e1 - qa := IntWalk.i64_in _ (by omega)
          have hw3 : IntKind.i64.wrap (sm + qa) = sm + qa := IntWalk.i64_in _ (by omega)
          have hj2 : (j : Int) < (n : Int) := Int.ofNat_lt.2 hj
          clear he hy0 hsm
          go_wp2_with fail
          go_quiet (fail)
          obtain ⟨W, hW⟩ : ∃ W, W = wr.drewN nq := ⟨_, rfl⟩
          have HOW := hd (show W.ownsRow R 2 1 (.slice (some ⟨R, 0, none⟩) n n) n ((begsL l2 (ordF d0) n k).map vi) by rw [hW]; exact HO.out)
          have HBW := hd (show Below wF.heap.size wF W by rw [hW]; exact below_drewN HB.out _)
          have j0' : W.cell? ⟨bu, ou + j * 4, none⟩ = some (.int .i64 qa) := by rw [hW]; exact j0
          have ce2 : W.cell? ⟨ge, j, none⟩ = some (.int .i64 e1) := by rw [hW]; exact ce'
          rw [← hW]
          clear hW HO HB j0 j1 ce' co hw1
          go_wp2_with ((with_reducible refine wpList_store_own _ R 2 1 n n R _ HOW.out size_int j (.int .i64 (e1 - qa)) ?_ ?_ ?_ ?_ ?_); exact rfl; exact rfl; exact rfl; omega; intro w7 ho7 hg7; have j7 := hg7.cell j0' (by simp; omega); have ce7 := hg7.cell ce2 (by simp; omega))
          have HO7 := hd (show w7.ownsRow R 2 1 (.slice (some ⟨R, 0, none⟩) n n) n ((begsL l2 (ordF d0) n (k + 1)).map vi) by rw [← HM.out]; exact ho7)
          have HB7 := hd (below_row hg7 HBW.out (fun k e => by cases e; rw [HRR.out]; exact Nat.le_refl _))
          clear ho7 hg7
          go_roundw
          case rel => exact ⟨k + 1, by omega, by go_num, by rw [HE1.out], by rw [HS.out], HO7, HB7⟩
          case measure => simp [intOf]; omega
        · obtain rfl : n = k := by omega
          clear hlt hk
          have BG := hd (show BegsAt wr (.slice (some ⟨R, 0, none⟩) n n) (begsL l2 (ordF d0) n n) n from ⟨own_sl HO.out (by unfold maxLen; omega), begsL_len _ _ _ _, fun k hk => begs_bd HD2.out HP.out (by omega) k hk⟩)
          have HJR := hd (HJF.out.below HB.out)
          have HPL := hd (begs_plan HD2.out HP.out)
          have hsum : sumN (fun m => (jobAt l2 (ordF d0 m)).a) n = sumN (fun i => (jobAt l2 i).a) n := sum_perm n (ordF d0) HP.out (fun i => (jobAt l2 i).a)
          rw [hsum]
          clear hsum
          go_wp2_with fail
          go_at_call 14
          refine (IsJobPlan_any _ _ l2 _ n wr HJR.out BG.out).mono ?_
          rintro e wa ⟨b, rfl, hb, hba⟩
          obtain rfl : b = true := hb.2 HPL.out
          have BA := hd hba
          clear hb hba
          go_wp2_with fail
          go_at_call 15
          refine (IdleOf_any _ _ l2 _ n wa (HJR.out.below BA.out) (BG.out.below BA.out) HPL.out).mono ?_
          rintro e wb ⟨rfl, hbb⟩
          rw [begs_top HD2.out HP.out (by omega)]
          have BB := hd (below_tr hbb BA.out)
          have DB := hd (below_tr BB.out HB.out)
          have HOb := hd (own_below HO.out BB.out)
          have HJb := hd (HJR.out.below BB.out)
          clear hbb BA HJR
          obtain ⟨_, _, e0, c1'⟩ := (HRO.out.below DB.out).int (show n - 1 < n by omega)
          cases e0
          obtain ⟨_, _, e0, c0'⟩ := (HRO.out.below DB.out).int (show 0 < n by omega)
          cases e0
          rw [HOF.out.cast (show n - 1 < n by omega)] at c1'
          rw [HOF.out.cast (show 0 < n by omega), show ov + 0 = ov from rfl] at c0'
          have hj1 := HP.out.lt (n - 1) (by omega)
          have hj0 := HP.out.lt 0 (by omega)
          have hjj : ordF d0 (n - 1) ≠ ordF d0 0 := fun e => by have := HP.out.inj (n - 1) 0 (by omega) (by omega) e; omega
          have hbl := begsL_len l2 (ordF d0) n n
          have BD := hd (fun k hk => begs_bd HD2.out HP.out (show n ≤ 24 by omega) k hk)
          have hwn : IntKind.i64.wrap ((n : Int) - 1) = ((n - 1 : Nat) : Int) := by rw [IntWalk.i64_in _ (by omega)]; omega
          have eb := EB.out n
          have sb := sumN_bd (f := fun i => (jobAt l2 i).a) (n := n) (M := 10000) (fun m _ => by have := jobAt_ok HD2.out m; rw [jobOk] at this; omega)
          generalize endF l2 (ordF d0) n = E at *
          generalize sumN (fun i => (jobAt l2 i).a) n = S at *
          have hwe : IntKind.i64.wrap (E - S) = E - S := IntWalk.i64_in _ (by omega)
          generalize begsL l2 (ordF d0) n n = z at *
          generalize ordF d0 (n - 1) = j1 at *
          generalize ordF d0 0 = j0 at *
          have cell : ∀ k, k < n → wb.cell? ⟨R, k, none⟩ = some (.int .i64 (z.getD k 0)) := fun k hk => by
            rw [HOb.out.cellAt k (by omega), List.getElem?_map, List.getElem?_eq_getElem (by omega), Option.map_some, List.getD_eq_getElem?_getD, List.getElem?_eq_getElem (by omega)]
            rfl
          have cz := cell j0 hj0
          have fz : wb.frozen? ⟨R, j1, none⟩ = false := by
            rcases HOb.out.2 with ⟨h5, _⟩ | ⟨g', cap', cur, h5, _, h6, _⟩
            · cases h5
            · cases h5
              exact frozen_of_row wb R j1 cur _ h6
          have cz1 := cell j1 hj1
          have hj12 : (j1 : Int) < (n : Int) := Int.ofNat_lt.2 hj1
          have hj02 : (j0 : Int) < (n : Int) := Int.ofNat_lt.2 hj0
          have hn1 : ((n - 1 : Nat) : Int) < (n : Int) := by omega
          clear cell eb sb HO BG EB SB HREF
          go_upto_region 53 with fail
          obtain ⟨s0, hs0⟩ : ∃ s0, s0 = z.getD j0 0 := ⟨_, rfl⟩
          rw [← hs0] at cz
          have HZ := hd hs0
          clear hs0
          go_region
          have q1' := HOb.out.stored j1 (.int .i64 s0)
          have hb9 : Below wF.heap.size wF (wb.setCell ⟨R, j1, none⟩ (.int .i64 s0)).drew := (below_row q1'.2 DB.out (fun k e => by cases e; rw [HRR.out]; exact Nat.le_refl _)).drew
          have ho9 : (wb.setCell ⟨R, j1, none⟩ (.int .i64 s0)).drew.ownsRow R 2 1 (.slice (some ⟨R, 0, none⟩) n n) n ((z.set j1 s0).map vi) := by
            rw [List.map_set]; exact q1'.1.drew
          obtain ⟨w9, hw9⟩ : ∃ w9, w9 = (wb.setCell ⟨R, j1, none⟩ (.int .i64 s0)).drew := ⟨_, rfl⟩
          rw [← hw9] at hb9 ho9 ⊢
          have B9 := hd hb9
          have BG9 := hd (show BegsAt w9 (.slice (some ⟨R, 0, none⟩) n n) (z.set j1 s0) n from ⟨own_sl ho9 (by unfold maxLen; omega), by rw [List.length_set]; exact hbl, fun k hk => by
            rw [set_at _ _ _ _ (by omega)]
            split
            · rw [HZ.out]; exact BD.out j0 hj0
            · exact BD.out k hk⟩)
          have NP := hd (show ¬ planP l2 (z.set j1 s0) n from begs_bad HD2.out hj1 hj0 hjj (by rw [set_at _ _ _ _ (by omega), set_at _ _ _ _ (by omega), if_pos rfl, if_neg (by omega), ← HZ.out]))
          clear hw9 q1' hb9 ho9 cz cz1 fz c0' c1' hwn
          go_wp2_with fail
          go_at_call 14
          refine (IsJobPlan_any _ _ l2 _ n w9 (HJF.out.below B9.out) BG9.out).mono ?_
          rintro e wy ⟨b, rfl, hb, hby⟩
          obtain rfl : b = false := by
            cases b with
            | false => rfl
            | true => exact absurd (hb.1 rfl) NP.out
          have BY := hd (below_tr hby B9.out)
          clear hb hby
          go_wp2
          go_ret
          exact ⟨rfl, below_tr BY.out BF.out⟩

theorem own : ownKnob Try.prog.godebug = none := by kernel_rfl
theorem laidOut : laidOutB Try.prog = true := by kernel_rfl

set_option maxRecDepth 100000 in
theorem lifted (os : Os) (started : os.Started) (H : Type) (enc : TypeId × Value → H) :
    ReturnsInHanded {} Try.checked os 3 .any (Rows.fnRulesSpec.pre6 enc Try.prog Try.f3 Rows.fnRulesRow.domain false) (Rows.fnRulesSpec.post enc Try.prog Try.f3 false true false false) := by
  refine returnsInHanded_of_change (C := Try.checked) own started (by as_aux_lemma => kernel_rfl) Try.func3
    (ChangeSpec.witness6 (enc := enc) (C := Try.checked) false ⟨#[], #[.slice none 0 0, .slice none 0 0], []⟩ 8 (by as_aux_lemma => kernel_rfl) (by as_aux_lemma => kernel_rfl) (by as_aux_lemma => kernel_rfl) (by as_aux_lemma => kernel_rfl)) ?_
  intro W base args ds gs before hval0 hW hcnd _
  have hval : ∀ (j : Nat) t v, Try.f3.params[j]? = some t → args[j]? = some v → Value.okWide Try.prog W .any base t v := hval0
  have hW' := hW
  obtain ⟨p, q, hA0, hV, rfl, hfz, hnd⟩ := hW
  have hA : DataW.TrodAll enc Try.prog W 0 (fun _ => true) true Try.f3.params.toList args.toList ds p := hA0
  rw [Try.params3] at hA hval
  obtain ⟨v0, vs0, d0, ds0, p0, q0, hargs, rfl, rfl, h0, r0⟩ := trodAll_cons hA
  obtain ⟨v1, vs1, d1, ds1, p1, q1, rfl, rfl, rfl, h1, r1⟩ := trodAll_cons r0
  obtain ⟨rfl, rfl, rfl⟩ := trodAll_nil r1
  obtain rfl : args = #[v0, v1] := by cases args; simp_all
  obtain ⟨rfl, rfl⟩ := trodVars_none hV
  have k0 := h0
  have lt0 : ∀ x ∈ p0, x.block < W.heap.size := by obtain ⟨m, hm⟩ := k0; exact DataW.trod_lt m _ _ _ hm
  obtain ⟨s0, len0, cap0, rfl⟩ := okWide_slice Try.underlying22 (hval 0 22 v0 rfl rfl)
  obtain ⟨x0, _, i0, w0⟩ := arg_bytes Try.underlying22 Try.underlying5 (by as_aux_lemma => kernel_rfl) h0
  have k1 := h1
  have lt1 : ∀ x ∈ p1, x.block < W.heap.size := by obtain ⟨m, hm⟩ := k1; exact DataW.trod_lt m _ _ _ hm
  obtain ⟨s1, len1, cap1, rfl⟩ := okWide_slice Try.underlying22 (hval 1 22 v1 rfl rfl)
  obtain ⟨x1, _, i1, w1⟩ := arg_bytes Try.underlying22 Try.underlying5 (by as_aux_lemma => kernel_rfl) h1
  clear hA0 hval0
  refine (walk W _ x0 i0 w0 _ x1 i1 w1).mono fun e W' ⟨he, bel⟩ => ?_
  subst he
  exact ⟨_, rfl, _, _, _, [], _, [], hW', trodAll_mk1 (shut_bool Try.underlying4 _), (trodAll_cons_mk (Below.trod laidOut (by as_aux_lemma => kernel_rfl) (of_decide_eq_true (by as_aux_lemma => kernel_rfl)) k0 bel lt0) (trodAll_cons_mk (Below.trod laidOut (by as_aux_lemma => kernel_rfl) (of_decide_eq_true (by as_aux_lemma => kernel_rfl)) k1 bel lt1) (trodAll_mk0))), rfl, bel.frame _, fun h => by cases h⟩

/-- The given statement. -/
theorem proved : Rows.FnRulesSaid :=
  OpenClaim.holds_of_wide 3 Try.f3 rfl rfl rfl rfl rfl rfl rfl ⟨rfl, rfl, rfl, rfl, rfl⟩ rfl rfl rfl rfl rfl (by kernel_rfl) Try.func3 (by kernel_rfl)
    (of_decide_eq_true (by kernel_rfl)) (by unfold Func.isWrapper; first | (rw [if_pos (by decide +kernel)]; kernel_rfl) | (rw [if_neg (by decide +kernel)]; exact ⟨rfl, rfl⟩))
    (fun os started H enc _ => lifted os started H enc)
#print axioms proved

end Go.Proofs.Ytjddlgmdbkaieaa.lFnRules
