/- Whatever trips are given, the program's VehicleBound and the reference's return the same number and bool, and the law's own copies are left as they were: the law returns true. No condition. -/
import Derived.Test.YtkcfbplfhakbcaaRows
import Derived.Test.YtkcfbplfhakbcaaTrips
import Derived.Test.YtkcfbplfhakbcaaQSlice
import Derived.Test.YtkcfbplfhakbcaaMaxMin
import Derived.Test.YtkcfbplfhakbcaaOpen
namespace Go.Proofs.Ytkcfbplfhakbcaa.lFnExactVehicleBound
open Go.ChangeShapes Go.WideShapes Go.ChangeAt Go.RowKit Go.Proofs.Ytkcfbplfhakbcaa Plain
set_option linter.unusedVariables false
set_option linter.unusedSimpArgs false
attribute [local go_sem ↓] Go.wp_at_zero Go.wp_at_succ

/-- how many of the first k trips are under way at t -/
def cntTo (l : List Q4) (t : Int) : Nat → Int
  | 0 => 0
  | k + 1 => cntTo l t k + match l[k]? with | some q => if q.a ≤ t ∧ t < q.b then 1 else 0 | none => 0
theorem cnt_yes {l : List Q4} {t : Int} {k : Nat} {q : Q4} (h : l[k]? = some q) (h1 : q.a ≤ t) (h2 : t < q.b) : cntTo l t (k + 1) = cntTo l t k + 1 := by
  rw [cntTo, h]; simp [h1, h2]
theorem cnt_no {l : List Q4} {t : Int} {k : Nat} {q : Q4} (h : l[k]? = some q) (h1 : ¬ (q.a ≤ t ∧ t < q.b)) : cntTo l t (k + 1) = cntTo l t k := by
  rw [cntTo, h]; simp only; rw [if_neg h1]; simp
theorem cnt_bd (l : List Q4) (t : Int) (k : Nat) : 0 ≤ cntTo l t k ∧ cntTo l t k ≤ k := by
  induction k with
  | zero => simp [cntTo]
  | succ k ih =>
    rw [cntTo]
    split
    · split <;> omega
    · omega
/-- the most under way when one of the first k trips begins -/
def mostTo (l : List Q4) : Nat → Int
  | 0 => 0
  | k + 1 => match l[k]? with | some q => max (mostTo l k) (cntTo l q.a l.length) | none => mostTo l k
theorem most_succ {l : List Q4} {k : Nat} {q : Q4} (h : l[k]? = some q) : mostTo l (k + 1) = max (mostTo l k) (cntTo l q.a l.length) := by
  rw [mostTo, h]
def M (l : List Q4) : Int × Bool := if tripsB l then (mostTo l l.length, true) else (0, false)

set_option maxHeartbeats 2000000 in
set_option maxRecDepth 100000 in
theorem impl_any (w : World) (v : Value) (l : List Q4) (_i : ∀ y ∈ l, y.I64) (_b : l.length ≤ 1048576) (s : Sl w 4 v l.length (q4s l)) :
    Calls Try.prog 24 #[v] w fun r w' => r = .returned (.tuple #[.int .i64 (M l).1, .bool (M l).2]) ∧ Below w.heap.size w w' := by
  have ht := hd (AreTrips_any v l w s)
  obtain ⟨A, cap, rfl, hcap, hr⟩ := s
  clear _i
  cases h1 : tripsB l with
  | false =>
    have H := hd (show M l = (0, false) by rw [M, h1]; rfl)
    rw [h1] at ht
    clear h1
    go_enter Try.func24, Try.ntmps24
    go_wp2_with (go_at_call 77; refine ht.out.mono ?_; rintro e w' ⟨rfl, hb⟩)
    go_ret2
    rw [H.out]
    exact ⟨rfl, hb⟩
  | true =>
    have H := hd (show M l = (mostTo l l.length, true) by rw [M, h1]; rfl)
    rw [h1] at ht
    clear h1
    generalize hn : l.length = n at *
    have Hn := hd hn
    clear hn
    go_enter Try.func24, Try.ntmps24
    go_wp2_with (go_at_call 77; refine ht.out.mono ?_; rintro e w1 ⟨rfl, hb1⟩)
    clear ht
    go_loopw [4, 15] (fun m i wr => ∃ k : Nat, k ≤ n ∧ i = .int .i64 k ∧ m = .int .i64 (mostTo l k) ∧ Below w.heap.size w wr) (fun _ i _ => n - (intOf i).toNat)
    case atStart => exact ⟨0, by omega, rfl, rfl, hb1⟩
    case round =>
      obtain ⟨k, hk, rfl, rfl, hb⟩ := hrel
      clear hb1
      by_cases hlt : k < n
      · obtain ⟨b, off, qa, qb, qc, qd, rfl, hq, c0, c1, c2, c3⟩ := (hr.below hb).q4 hlt
        have Hb := hd hb
        clear hb
        obtain ⟨wo, hwo⟩ : ∃ wo : World, wo = wr := ⟨_, rfl⟩
        subst hwo
        go_wp2
        have HB2 := hd (show Below wo.heap.size wo (wo.alloc (.cells #[.int .i64 qa, .int .i64 qb, .int .i64 qc, .int .i64 qd] 101)) from (Below.refl _ _).alloc (Nat.le_refl _) _)
        clear c0 c1 c2 c3
        go_loopw [7, 21] (fun m i wr => ∃ j : Nat, j ≤ n ∧ i = .int .i64 j ∧ m = .int .i64 (cntTo l qa j) ∧ wr.cell? ⟨wo.heap.size, 0, none⟩ = some (.int .i64 qa) ∧ Below wo.heap.size wo wr) (fun _ i _ => n - (intOf i).toNat)
        case atStart => exact ⟨0, by omega, rfl, rfl, by simp [go_sem], HB2.out⟩
        case round =>
          obtain ⟨j, hj, rfl, rfl, hbox, hbj⟩ := hrel
          by_cases hjt : j < n
          · obtain ⟨b', off', ra, rb, rc, rd, hA, hq', d0, d1, d2, d3⟩ := ((hr.below Hb.out).below hbj).q4 hjt
            cases hA
            obtain ⟨e1, e2⟩ := cnt_bd l qa j
            have hlt9 : wo.heap.size < wr.heap.size := block_lt_of_cell hbox
            have Hbj := hd hbj
            have Hbox := hd hbox
            clear hr hbj
            go_wp2
            all_goals
              go_roundw
              case rel =>
                refine ⟨j + 1, by omega, by go_num, ?_, cell_later ((Below.refl _ _).alloc (Nat.le_refl _) _) Hbox.out, Hbj.out.alloc Hbj.out.size _⟩
                first
                  | rw [cnt_yes hq'.out (by assumption) (by assumption)]
                  | rw [cnt_no hq'.out (by simp only; omega)]
              case measure => simp [intOf]; omega
          · have e : j = n := by omega
            subst e
            obtain ⟨e1, e2⟩ := cnt_bd l qa j
            have Hm := hd (most_succ hq.out)
            rw [Hn.out] at Hm
            have Hbj := hd (below_tr hbj Hb.out)
            clear hbj hbox
            go_wp2
            go_roundw
            case rel => exact ⟨k + 1, by omega, by go_num, by rw [Hm.out]; simp [ite_max], Hbj.out⟩
            case measure => simp [intOf]; omega
      · have e : k = n := by omega
        subst e
        go_wp2
        go_ret2
        rw [H.out]
        exact ⟨rfl, hb⟩

set_option maxHeartbeats 4000000 in
set_option maxRecDepth 100000 in
theorem spec_any (w : World) (v : Value) (l : List Q4) (_i : ∀ y ∈ l, y.I64) (_b : l.length ≤ 1048576) (s : Sl w 4 v l.length (q4s l)) :
    Calls Try.prog 22 #[v] w fun r w' => r = .returned (.tuple #[.int .i64 (M l).1, .bool (M l).2]) ∧ Below w.heap.size w w' := by
  have ht := hd (l06Trips_any v l w s)
  obtain ⟨A, cap, rfl, hcap, hr⟩ := s
  clear _i
  cases h1 : tripsB l with
  | false =>
    have H := hd (show M l = (0, false) by rw [M, h1]; rfl)
    rw [h1] at ht
    clear h1
    go_enter Try.func22, Try.ntmps22
    go_wp2_with (go_at_call 75; refine ht.out.mono ?_; rintro e w' ⟨rfl, hb⟩)
    go_ret2
    rw [H.out]
    exact ⟨rfl, hb⟩
  | true =>
    have H := hd (show M l = (mostTo l l.length, true) by rw [M, h1]; rfl)
    rw [h1] at ht
    clear h1
    generalize hn : l.length = n at *
    have Hn := hd hn
    clear hn
    go_enter Try.func22, Try.ntmps22
    go_wp2_with (go_at_call 75; refine ht.out.mono ?_; rintro e w1 ⟨rfl, hb1⟩)
    clear ht
    go_loopw [4, 5] (fun m i wr => ∃ k : Nat, k ≤ n ∧ i = .int .i64 k ∧ m = .int .i64 (mostTo l k) ∧ Below w.heap.size w wr) (fun _ i _ => n - (intOf i).toNat)
    case atStart => exact ⟨0, by omega, rfl, rfl, hb1⟩
    case round =>
      obtain ⟨k, hk, rfl, rfl, hb⟩ := hrel
      clear hb1
      by_cases hlt : k < n
      · obtain ⟨b, off, qa, qb, qc, qd, hA, hq, c0', c1', c2', c3'⟩ := hr.q4 hlt
        cases hA
        clear c0' c1' c2' c3'
        obtain ⟨wo, hwo⟩ : ∃ wo : World, wo = wr := ⟨_, rfl⟩
        subst hwo
        go_wp2
        go_loopw [6, 7] (fun m i wr => ∃ j : Nat, j ≤ n ∧ i = .int .i64 j ∧ m = .int .i64 (cntTo l qa j) ∧ Below w.heap.size w wr) (fun _ i _ => n - (intOf i).toNat)
        case atStart => exact ⟨0, by omega, rfl, rfl, hb⟩
        case round =>
          obtain ⟨j, hj, rfl, rfl, hbj⟩ := hrel
          clear hb
          by_cases hjt : j < n
          · obtain ⟨b', off', ra, rb, rc, rd, hA, hq', d0, d1, d2, d3⟩ := (hr.below hbj).q4 hjt
            cases hA
            obtain ⟨b'', off'', sa, sb, sc, sd, hA, hq'', c0, c1, c2, c3⟩ := (hr.below hbj).q4 hlt
            cases hA
            have e0 := Option.some.inj (hq.out.symm.trans hq''.out)
            obtain ⟨rfl, rfl, rfl, rfl⟩ := Q4.mk.inj e0
            obtain ⟨e1, e2⟩ := cnt_bd l qa j
            have Hbj := hd hbj
            clear hr hbj e0 hq'' c1 c2 c3 d2 d3
            have i1 : (0 : Int) ≤ (j : Int) := by omega
            have i2 : (j : Int) < (n : Int) := by omega
            have i3 : (0 : Int) ≤ (k : Int) := by omega
            have i4 : (k : Int) < (n : Int) := by omega
            go_wp2
            by_cases t1 : ra ≤ qa
            · by_cases t2 : qa < rb
              · go_quiet (fail)
                go_wp2
                go_roundw
                case rel => exact ⟨j + 1, by omega, by go_num, by rw [cnt_yes hq'.out t1 t2], below_drewN Hbj.out _⟩
                case measure => simp [intOf]; omega
              · have t2' : decide (qa < rb) = false := by simpa using t2
                go_quiet (fail)
                go_wp2
                go_roundw
                case rel => exact ⟨j + 1, by omega, by go_num, by rw [cnt_no hq'.out (by simp only; omega)], below_drewN Hbj.out _⟩
                case measure => simp [intOf]; omega
            · have t1' : decide (ra ≤ qa) = false := by simpa using t1
              go_quiet (fail)
              go_wp2
              go_roundw
              case rel => exact ⟨j + 1, by omega, by go_num, by rw [cnt_no hq'.out (by simp only; omega)], below_drewN Hbj.out _⟩
              case measure => simp [intOf]; omega
          · have e : j = n := by omega
            subst e
            obtain ⟨e1, e2⟩ := cnt_bd l qa j
            have Hm := hd (most_succ hq.out)
            rw [Hn.out] at Hm
            have Hbj := hd hbj
            clear hbj
            go_wp2_with (go_at_call 72; refine (l00Max_any _ _ _).mono ?_; rintro e w' ⟨rfl, rfl⟩)
            go_roundw
            case rel => exact ⟨k + 1, by omega, by go_num, by rw [Hm.out], Hbj.out⟩
            case measure => simp [intOf]; omega
      · have e : k = n := by omega
        subst e
        go_wp2
        go_ret2
        rw [H.out]
        exact ⟨rfl, hb⟩

set_option maxHeartbeats 2000000 in
set_option maxRecDepth 100000 in
theorem walk (w : World) (v0 : Value) (x0 : List Q4) (i0 : ∀ x ∈ x0, x.I64) (s0 : Sl w 4 v0 x0.length (q4s x0)) :
    Calls Try.prog 4 #[v0] w fun e w' => e = .returned (.bool true) ∧ Below w.heap.size w w' := by
  obtain ⟨A0, cap0, hw0, _, hr0⟩ := id s0
  have hv0 := hd hw0; clear hw0
  have hm0 := hr0.2.1
  have hz0 := hd (szTripS_any v0 x0.length (1048576) w ⟨A0, cap0, hv0.out, hm0⟩ (by omega) (by omega))
  by_cases c0 : (1048576 : Int) < x0.length
  · rw [if_pos c0] at hz0
    go_enter Try.func4, Try.ntmps4
    go_wp2_with fail
    refine hz0.out.mono ?_; rintro e w' ⟨rfl, rfl⟩
    go_wp2
    go_ret
    exact ⟨rfl, Below.refl _ _⟩
  rw [if_neg c0] at hz0
  have l0 : (0 : Int) ≤ 1048576 - x0.length := by omega
  have b0 : x0.length ≤ 1048576 := by omega
  have z0 := size_le b0
  have hB := Below.refl w.heap.size w
  clear hr0 hm0
  clear hv0
  go_enter Try.func4, Try.ntmps4
  go_wp2_with fail
  refine hz0.out.mono ?_; rintro e w' ⟨rfl, rfl⟩
  clear hz0
  go_wp2_with fail
  refine (toTripS_any _ x0 _ (s0.below hB) b0).mono ?_; rintro e w1 ⟨s0_, rfl, ho_s0_, hb⟩
  replace ho_s0_ := own_mono ho_s0_ hB.size
  replace hB := below_tr hb hB
  clear hb
  go_wp2_with fail
  refine (spec_any _ _ x0 i0 b0 (own_sl ho_s0_ z0)).mono ?_; rintro e w2 ⟨rfl, hb⟩
  replace ho_s0_ := own_below ho_s0_ hb
  replace hB := below_tr hb hB
  clear hb
  clear ho_s0_
  go_wp2_with fail
  refine (toTripS_any _ x0 _ (s0.below hB) b0).mono ?_; rintro e w3 ⟨x0_, rfl, ho_x0_, hb⟩
  replace ho_x0_ := own_mono ho_x0_ hB.size
  replace hB := below_tr hb hB
  clear hb
  go_wp2_with fail
  refine (impl_any _ _ x0 i0 b0 (own_sl ho_x0_ z0)).mono ?_; rintro e w4 ⟨rfl, hb⟩
  replace ho_x0_ := own_below ho_x0_ hb
  replace hB := below_tr hb hB
  clear hb
  go_wp2_with fail
  refine (toTripS_any _ x0 _ (s0.below hB) b0).mono ?_; rintro e w5 ⟨c0_, rfl, ho_c0_, hb⟩
  have d_x0__c0_ := dj_new ho_x0_ ho_c0_
  replace ho_x0_ := own_below ho_x0_ hb
  replace ho_c0_ := own_mono ho_c0_ hB.size
  replace hB := below_tr hb hB
  clear hb
  go_wp2_with fail
  refine (eqTripS_any _ _ x0 x0 _ (own_sl ho_x0_ z0) (own_sl ho_c0_ z0)).mono ?_; rintro e w6 ⟨rfl, hb⟩
  replace ho_x0_ := own_below ho_x0_ hb
  replace ho_c0_ := own_below ho_c0_ hb
  replace hB := below_tr hb hB
  clear hb
  clear ho_c0_ d_x0__c0_
  go_wp2_with fail
  go_ret
  exact ⟨rfl, hB⟩

theorem own : ownKnob Try.prog.godebug = none := by kernel_rfl
theorem laidOut : laidOutB Try.prog = true := by kernel_rfl

set_option maxRecDepth 100000 in
theorem lifted (os : Os) (started : os.Started) (H : Type) (enc : TypeId × Value → H) :
    ReturnsInHanded {} Try.checked os 4 .any (Rows.fnExactVehicleBoundSpec.pre6 enc Try.prog Try.f4 Rows.fnExactVehicleBoundRow.domain false) (Rows.fnExactVehicleBoundSpec.post enc Try.prog Try.f4 false true false false) := by
  refine returnsInHanded_of_change (C := Try.checked) own started (by as_aux_lemma => kernel_rfl) Try.func4
    (ChangeSpec.witness6 (enc := enc) (C := Try.checked) false ⟨#[], #[.slice none 0 0], []⟩ 8 (by as_aux_lemma => kernel_rfl) (by as_aux_lemma => kernel_rfl) (by as_aux_lemma => kernel_rfl) (by as_aux_lemma => kernel_rfl)) ?_
  intro W base args ds gs before hval0 hW hcnd _
  have hval : ∀ (j : Nat) t v, Try.f4.params[j]? = some t → args[j]? = some v → Value.okWide Try.prog W .any base t v := hval0
  have hW' := hW
  obtain ⟨p, q, hA0, hV, rfl, hfz, hnd⟩ := hW
  have hA : DataW.TrodAll enc Try.prog W 0 (fun _ => true) true Try.f4.params.toList args.toList ds p := hA0
  rw [Try.params4] at hA hval
  obtain ⟨v0, vs0, d0, ds0, p0, q0, hargs, rfl, rfl, h0, r0⟩ := trodAll_cons hA
  obtain ⟨rfl, rfl, rfl⟩ := trodAll_nil r0
  obtain rfl : args = #[v0] := by cases args; simp_all
  obtain ⟨rfl, rfl⟩ := trodVars_none hV
  have k0 := h0
  have lt0 : ∀ x ∈ p0, x.block < W.heap.size := by obtain ⟨m, hm⟩ := k0; exact DataW.trod_lt m _ _ _ hm
  obtain ⟨s0, len0, cap0, rfl⟩ := okWide_slice Try.underlying28 (hval 0 28 v0 rfl rfl)
  obtain ⟨x0, _, i0, w0⟩ := arg_q4 Try.underlying28 Try.underlying103 Try.underlying2 rfl (by as_aux_lemma => kernel_rfl) (by as_aux_lemma => kernel_rfl) h0
  clear hA0 hval0
  refine (walk W _ x0 i0 w0).mono fun e W' ⟨he, bel⟩ => ?_
  subst he
  exact ⟨_, rfl, _, _, _, [], _, [], hW', trodAll_mk1 (shut_bool Try.underlying4 _), (trodAll_cons_mk (Below.trod laidOut (by as_aux_lemma => kernel_rfl) (of_decide_eq_true (by as_aux_lemma => kernel_rfl)) k0 bel lt0) (trodAll_mk0)), rfl, bel.frame _, fun h => by cases h⟩

/-- The given statement. -/
theorem proved : Rows.FnExactVehicleBoundSaid :=
  OpenClaim.holds_of_wide 4 Try.f4 rfl rfl rfl rfl rfl rfl rfl ⟨rfl, rfl, rfl, rfl, rfl⟩ rfl rfl rfl rfl rfl (by kernel_rfl) Try.func4 (by kernel_rfl)
    (of_decide_eq_true (by kernel_rfl)) (by unfold Func.isWrapper; first | (rw [if_pos (by decide +kernel)]; kernel_rfl) | (rw [if_neg (by decide +kernel)]; exact ⟨rfl, rfl⟩))
    (fun os started H enc _ => lifted os started H enc)
#print axioms proved

end Go.Proofs.Ytkcfbplfhakbcaa.lFnExactVehicleBound
