/- Whatever times, period and turn are given, the program's TurnTable and the reference's return the same list and bool, the law's own copies are left as they were, and the result shares no memory: the law returns true. No condition. -/
import Derived.Test.YtcfkcahibkpjhaaRows
import Derived.Test.YtcfkcahibkpjhaaPeriods
import Derived.Test.YtcfkcahibkpjhaaOpen
namespace Go.Proofs.Ytcfkcahibkpjhaa.lFnExactTurnTable
open Go.ChangeShapes Go.WideShapes Go.ChangeAt Go.RowKit Go.Proofs.Ytcfkcahibkpjhaa Plain
set_option linter.unusedVariables false
set_option linter.unusedSimpArgs false
attribute [local go_sem ↓] Go.wp_at_zero Go.wp_at_succ

/-- the times turned -/
def M (xs : List Int) (p b : Int) : List Int × Bool := if tableB xs p && inR b (-1000) 1000 then (xs.map fun t => (t + b) % p, true) else ([], false)
theorem len_ok (x0 : List Int) (i0 : ∀ x ∈ x0, I64 x) (b0 : x0.length ≤ 1048576) (a1 : Int) (i1 : I64 a1) (a2 : Int) (i2 : I64 a2) : (M x0 a1 a2).1.length ≤ 1048576 := by
  unfold M; split <;> simp <;> omega

set_option maxHeartbeats 1000000 in
theorem impl_any (w : World) (v0 : Value) (x0 : List Int) (i0 : ∀ x ∈ x0, I64 x) (b0 : x0.length ≤ 1048576) (s0 : Sl w 1 v0 x0.length (x0.map vi)) (p : Int) (i1 : I64 p) (b : Int) (i2 : I64 b) :
    Calls Try.prog 47 #[v0, .int .i64 p, .int .i64 b] w (OutL 2 1 (M x0 p b).1.length ((M x0 p b).1.map vi) (fun u => .tuple #[u, .bool (M x0 p b).2]) w) := by
  have s0' := s0
  obtain ⟨A, cap, rfl, hcap, hr⟩ := s0
  cases h1 : tableB x0 p with
  | false =>
    have H := hd (show M x0 p b = ([], false) by rw [M, h1]; rfl)
    go_enter Try.func47, Try.ntmps47
    go_wp2_with (go_at_call 116; refine (areTableTimes_any _ x0 _ _ s0').mono ?_; rintro e w' ⟨rfl, rfl⟩)
    go_ret2
    rw [H.out]
    exact ⟨_, rfl, World.ownsRow_nil _ _ _ _, Below.refl _ _⟩
  | true =>
    have hxs : ∀ i, i < x0.length → 0 ≤ x0.getD i 0 ∧ x0.getD i 0 ≤ 60 := table_at h1
    cases h2 : inR b (-1000) 1000 with
    | false =>
      have H := hd (show M x0 p b = ([], false) by rw [M, h1, h2]; rfl)
      go_enter Try.func47, Try.ntmps47
      go_wp2_with (first | (go_at_call 116; refine (areTableTimes_any _ x0 _ _ s0').mono ?_; rintro e w' ⟨rfl, rfl⟩) | (go_at_call 106; refine (within_any _ _ _ _).mono ?_; rintro e w' ⟨rfl, rfl⟩))
      go_ret2
      rw [H.out]
      exact ⟨_, rfl, World.ownsRow_nil _ _ _ _, Below.refl _ _⟩
    | true =>
      have H := hd (show M x0 p b = (x0.map fun t => (t + b) % p, true) by rw [M, h1, h2]; rfl)
      have hT := h1
      simp only [tableB, Bool.and_eq_true, inR_iff] at hT
      obtain ⟨⟨p1, p2⟩, _⟩ := hT
      obtain ⟨q1, q2⟩ := inR_iff.1 h2
      obtain ⟨i0, hi, hz0, hz1, hz2⟩ := info_parts infoI64
      have hm := hr.2.1
      unfold maxLen at hm
      have Ht := areTableTimes_any _ x0 p w s0'
      rw [h1] at Ht
      clear s0' h1
      generalize hn : x0.length = n at *
      have Hn := hd hn
      have Hx := hd hxs
      have HT := hd Ht
      clear hn hxs i1 i2 Ht
      go_enter Try.func47, Try.ntmps47
      go_wp2_with (first | (go_at_call 116; refine HT.out.mono ?_; rintro e w' ⟨rfl, rfl⟩) | (go_at_call 106; refine (within_any _ _ _ _).mono ?_; rintro e w' ⟨rfl, rfl⟩))
      clear h2
      have hstart := World.ownsRow_made (size := 1) w #[] 0 (Nat.le_refl _) (by unfold maxLen; omega) rfl (e := 2)
      go_loopw [8, 23] (fun v i wr => ∃ k : Nat, k ≤ n ∧ i = .int .i64 k ∧ wr.ownsRow w.heap.size 2 1 v k (((x0.take k).map fun t => (t + b) % p).map vi) ∧ Below w.heap.size w wr) (fun _ i _ => n - (intOf i).toNat)
      case atStart => exact ⟨0, by omega, rfl, by simpa using hstart, (Below.refl _ _).alloc (Nat.le_refl _) _⟩
      case round =>
        obtain ⟨k, hk, rfl, ho, hb⟩ := hrel
        clear hstart
        by_cases hlt : k < n
        · obtain ⟨b', off, rfl, hc⟩ := (hr.below hb).int hlt
          obtain ⟨g1, g2⟩ := Hx.out k hlt
          have hl : k < x0.length := by have := Hn.out; omega
          have hkm := app1 (show k ≤ 1048576 by omega)
          have e1 : x0.getD k 0 = x0[k] := by simp [hl]
          rw [e1] at hc g1 g2
          have Hst := hd (map_take_snoc (fun t => (t + b) % p) x0 k hl)
          generalize x0[k] = t at *
          have hI : I64 (t + b) := ⟨by omega, by omega⟩
          have Hb := hd hb
          clear hr hb hl e1
          go_wp2_with (first
            | (go_at_call 117; refine (floorMod_any _ _ _ (by omega) (by omega) hI).mono ?_; rintro e w' ⟨rfl, rfl⟩)
            | (at_builtin; go_must (refine wpList_append_own _ rfl _ _ 28 rfl w.heap.size 2 i0 (.int .i64 0) 1 8 Try.underlying28 hi hz0 hz1 hz2 rfl (by decide) _ _ _ rfl (ho.alloc _) ⟨wr.heap.size, 0, none⟩ 1 1 [.int .i64 ((t + b) % p)] rfl rfl (cell_one_new _ _ _) (one_cell rfl) hkm (by omega) (Nat.le_trans Hb.out.size (by simp)) ?_); intro v' w1 ho1 hg1 _))
          go_roundw
          case rel =>
            have e := congrArg (List.map vi) Hst.out
            simp only [List.map_append, List.map_cons, List.map_nil] at e
            exact ⟨k + 1, by omega, by go_num, e ▸ ho1, (Hb.out.alloc Hb.out.size _).grown hg1 (Nat.le_trans Hb.out.size (by simp)) (own_row ho (Nat.le_refl _))⟩
          case measure => simp [intOf]; omega
        · go_wp2
          go_ret2
          rw [H.out]
          have e : k = n := by omega
          rw [e, List.take_of_length_le (by have := Hn.out; omega)] at ho
          exact ⟨_, rfl, by simpa [Hn.out] using ho, hb⟩

set_option maxHeartbeats 1000000 in
theorem spec_any (w : World) (v0 : Value) (x0 : List Int) (i0 : ∀ x ∈ x0, I64 x) (b0 : x0.length ≤ 1048576) (s0 : Sl w 1 v0 x0.length (x0.map vi)) (p : Int) (i1 : I64 p) (b : Int) (i2 : I64 b) :
    Calls Try.prog 45 #[v0, .int .i64 p, .int .i64 b] w (OutL 2 1 (M x0 p b).1.length ((M x0 p b).1.map vi) (fun u => .tuple #[u, .bool (M x0 p b).2]) w) := by
  have s0' := s0
  obtain ⟨A, cap, rfl, hcap, hr⟩ := s0
  cases h1 : tableB x0 p with
  | false =>
    have H := hd (show M x0 p b = ([], false) by rw [M, h1]; rfl)
    go_enter Try.func45, Try.ntmps45
    go_wp2_with (go_at_call 114; refine (l05Table_any _ x0 _ _ s0').mono ?_; rintro e w' ⟨rfl, rfl⟩)
    go_ret2
    rw [H.out]
    exact ⟨_, rfl, World.ownsRow_nil _ _ _ _, Below.refl _ _⟩
  | true =>
    have hxs : ∀ i, i < x0.length → 0 ≤ x0.getD i 0 ∧ x0.getD i 0 ≤ 60 := table_at h1
    cases h2 : inR b (-1000) 1000 with
    | false =>
      have H := hd (show M x0 p b = ([], false) by rw [M, h1, h2]; rfl)
      go_enter Try.func45, Try.ntmps45
      go_wp2_with (first | (go_at_call 114; refine (l05Table_any _ x0 _ _ s0').mono ?_; rintro e w' ⟨rfl, rfl⟩) | (go_at_call 115; refine (l00In_any _ _ _ _).mono ?_; rintro e w' ⟨rfl, rfl⟩))
      go_ret2
      rw [H.out]
      exact ⟨_, rfl, World.ownsRow_nil _ _ _ _, Below.refl _ _⟩
    | true =>
      have H := hd (show M x0 p b = (x0.map fun t => (t + b) % p, true) by rw [M, h1, h2]; rfl)
      have hT := h1
      simp only [tableB, Bool.and_eq_true, inR_iff] at hT
      obtain ⟨⟨p1, p2⟩, _⟩ := hT
      obtain ⟨q1, q2⟩ := inR_iff.1 h2
      obtain ⟨i0, hi, hz0, hz1, hz2⟩ := info_parts infoI64
      have hm := hr.2.1
      unfold maxLen at hm
      have Ht := l05Table_any _ x0 p w s0'
      rw [h1] at Ht
      clear s0' h1
      generalize hn : x0.length = n at *
      have Hn := hd hn
      have Hx := hd hxs
      have HT := hd Ht
      clear hn hxs i1 i2 Ht
      go_enter Try.func45, Try.ntmps45
      go_wp2_with (first | (go_at_call 114; refine HT.out.mono ?_; rintro e w' ⟨rfl, rfl⟩) | (go_at_call 115; refine (l00In_any _ _ _ _).mono ?_; rintro e w' ⟨rfl, rfl⟩))
      clear h2
      have hstart := World.ownsRow_made (size := 1) w #[] 0 (Nat.le_refl _) (by unfold maxLen; omega) rfl (e := 2)
      go_loopw [8, 22] (fun v i wr => ∃ k : Nat, k ≤ n ∧ i = .int .i64 k ∧ wr.ownsRow w.heap.size 2 1 v k (((x0.take k).map fun t => (t + b) % p).map vi) ∧ Below w.heap.size w wr) (fun _ i _ => n - (intOf i).toNat)
      case atStart => exact ⟨0, by omega, rfl, by simpa using hstart, (Below.refl _ _).alloc (Nat.le_refl _) _⟩
      case round =>
        obtain ⟨k, hk, rfl, ho, hb⟩ := hrel
        clear hstart
        by_cases hlt : k < n
        · obtain ⟨b', off, rfl, hc⟩ := (hr.below hb).int hlt
          obtain ⟨g1, g2⟩ := Hx.out k hlt
          have hl : k < x0.length := by have := Hn.out; omega
          have hkm := app1 (show k ≤ 1048576 by omega)
          have e1 : x0.getD k 0 = x0[k] := by simp [hl]
          rw [e1] at hc g1 g2
          have Hst := hd (map_take_snoc (fun t => (t + b) % p) x0 k hl)
          generalize x0[k] = t at *
          have Hm := hd ((Int.add_emod_right ((t + b).tmod p) p).symm.trans (tmod_floor (t + b) p (by omega)))
          have r0 : ¬ p = 0 := by omega
          have r1 := Int.tmod_lt_of_pos (t + b) (show 0 < p by omega)
          have r2 : -p < (t + b).tmod p := by have := Int.lt_tmod_of_pos (t + b) (show 0 < p by omega); omega
          have Hb := hd hb
          clear hr hb hl e1
          go_wp2_with (at_builtin; go_must (refine wpList_append_own _ rfl _ _ 28 rfl w.heap.size 2 i0 (.int .i64 0) 1 8 Try.underlying28 hi hz0 hz1 hz2 rfl (by decide) _ _ _ rfl (ho.alloc _) ⟨wr.heap.size, 0, none⟩ 1 1 [.int .i64 ((t + b).tmod p % p)] rfl rfl (cell_one_new _ _ _) (one_cell rfl) hkm (by omega) (Nat.le_trans Hb.out.size (by simp)) ?_); intro v' w1 ho1 hg1 _)
          go_roundw
          case rel =>
            have e := congrArg (List.map vi) Hst.out
            simp only [List.map_append, List.map_cons, List.map_nil] at e
            rw [Hm.out] at ho1
            exact ⟨k + 1, by omega, by go_num, e ▸ ho1, (Hb.out.alloc Hb.out.size _).grown hg1 (Nat.le_trans Hb.out.size (by simp)) (own_row ho (Nat.le_refl _))⟩
          case measure => simp [intOf]; omega
        · go_wp2
          go_ret2
          rw [H.out]
          have e : k = n := by omega
          rw [e, List.take_of_length_le (by have := Hn.out; omega)] at ho
          exact ⟨_, rfl, by simpa [Hn.out] using ho, hb⟩

set_option maxHeartbeats 2000000 in
set_option maxRecDepth 100000 in
theorem walk (w : World) (v0 : Value) (x0 : List Int) (i0 : ∀ x ∈ x0, I64 x) (s0 : Sl w 1 v0 x0.length (x0.map vi)) (a1 : Int) (i1 : I64 a1) (a2 : Int) (i2 : I64 a2) :
    Calls Try.prog 10 #[v0, .int .i64 a1, .int .i64 a2] w fun e w' => e = .returned (.bool true) ∧ Below w.heap.size w w' := by
  obtain ⟨A0, cap0, hv0, _, hr0⟩ := id s0
  have hm0 := hr0.2.1
  by_cases b0 : x0.length ≤ 1048576
  rotate_left
  · subst hv0
    unfold maxLen at hm0
    have hx' : ¬ ((x0.length : Int) ≤ 1048576) := by omega
    go_enter Try.func10, Try.ntmps10
    go_wp2
    go_ret
    exact ⟨rfl, Below.refl _ _⟩
  have hx0 : (x0.length : Int) ≤ 1048576 := by omega
  have z0 := size_le b0
  have bg := len_ok x0 i0 b0 a1 i1 a2 i2
  have zg := size_le bg
  have hB := Below.refl w.heap.size w
  have fv0 : v0 = .slice A0 x0.length cap0 := hv0
  clear hr0 hm0
  clear fv0; subst hv0
  go_enter Try.func10, Try.ntmps10
  go_wp2_with fail
  refine (toInt64S_any _ x0 _ (s0.below hB) b0).mono ?_; rintro e w1 ⟨s0_, rfl, ho_s0_, hb⟩
  replace ho_s0_ := own_mono ho_s0_ hB.size
  replace hB := below_tr hb hB
  clear hb
  go_wp2_with fail
  refine (spec_any _ _ x0 i0 b0 (own_sl ho_s0_ z0) a1 i1 a2 i2).mono ?_; rintro e w2 ⟨w0, rfl, ho_w0, hb⟩
  have d_s0__w0 := dj_new ho_s0_ ho_w0
  replace ho_s0_ := own_below ho_s0_ hb
  replace ho_w0 := own_mono ho_w0 hB.size
  replace hB := below_tr hb hB
  clear hb
  clear ho_s0_ d_s0__w0
  go_wp2_with fail
  refine (toInt64S_any _ x0 _ (s0.below hB) b0).mono ?_; rintro e w3 ⟨x0_, rfl, ho_x0_, hb⟩
  have d_w0_x0_ := dj_new ho_w0 ho_x0_
  replace ho_w0 := own_below ho_w0 hb
  replace ho_x0_ := own_mono ho_x0_ hB.size
  replace hB := below_tr hb hB
  clear hb
  go_wp2_with fail
  refine (impl_any _ _ x0 i0 b0 (own_sl ho_x0_ z0) a1 i1 a2 i2).mono ?_; rintro e w4 ⟨g0, rfl, ho_g0, hb⟩
  have d_w0_g0 := dj_new ho_w0 ho_g0
  have d_x0__g0 := dj_new ho_x0_ ho_g0
  replace ho_w0 := own_below ho_w0 hb
  replace ho_x0_ := own_below ho_x0_ hb
  replace ho_g0 := own_mono ho_g0 hB.size
  replace hB := below_tr hb hB
  clear hb
  go_wp2_with fail
  refine (eqInt64S_b _ _ _ _ _ (own_sl ho_g0 zg) (own_sl ho_w0 zg)).mono ?_; rintro e w5 ⟨rfl, hb⟩
  replace ho_w0 := own_below ho_w0 hb
  replace ho_x0_ := own_below ho_x0_ hb
  replace ho_g0 := own_below ho_g0 hb
  replace hB := below_tr hb hB
  clear hb
  go_wp2_with fail
  refine (toInt64S_any _ x0 _ (s0.below hB) b0).mono ?_; rintro e w6 ⟨c0_, rfl, ho_c0_, hb⟩
  have d_w0_c0_ := dj_new ho_w0 ho_c0_
  have d_x0__c0_ := dj_new ho_x0_ ho_c0_
  have d_g0_c0_ := dj_new ho_g0 ho_c0_
  replace ho_w0 := own_below ho_w0 hb
  replace ho_x0_ := own_below ho_x0_ hb
  replace ho_g0 := own_below ho_g0 hb
  replace ho_c0_ := own_mono ho_c0_ hB.size
  replace hB := below_tr hb hB
  clear hb
  go_wp2_with fail
  refine (eqInt64S_b _ _ x0 x0 _ (own_sl ho_x0_ z0) (own_sl ho_c0_ z0)).mono ?_; rintro e w7 ⟨rfl, hb⟩
  replace ho_w0 := own_below ho_w0 hb
  replace ho_x0_ := own_below ho_x0_ hb
  replace ho_g0 := own_below ho_g0 hb
  replace ho_c0_ := own_below ho_c0_ hb
  replace hB := below_tr hb hB
  clear hb
  clear ho_c0_ d_w0_c0_ d_x0__c0_ d_g0_c0_
  go_wp2_with fail
  have hrow := own_row ho_x0_ (Nat.le_refl _)
  refine (markInt64S_any _ _ _ _ (1) _ ho_x0_ b0 (by omega) (by omega)).mono ?_; rintro e w8 ⟨rfl, ho', hg⟩
  replace ho_w0 := own_kept ho_w0 hg d_w0_x0_
  replace ho_g0 := own_kept ho_g0 hg (dj_symm d_x0__g0)
  replace ho_x0_ := ho'
  replace hB := below_row hg hB hrow
  clear hg hrow ho'
  clear ho_x0_ d_w0_x0_ d_x0__g0
  go_wp2_with fail
  refine (eqInt64S_b _ _ _ _ _ (own_sl ho_g0 zg) (own_sl ho_w0 zg)).mono ?_; rintro e w9 ⟨rfl, hb⟩
  replace ho_w0 := own_below ho_w0 hb
  replace ho_g0 := own_below ho_g0 hb
  replace hB := below_tr hb hB
  clear hb
  go_wp2_with fail
  have hrow := own_row ho_g0 (Nat.le_refl _)
  refine (markInt64S_any _ _ _ _ 1 _ ho_g0 bg (by omega) (by omega)).mono ?_; rintro e w10 ⟨rfl, ho', hg⟩
  replace ho_w0 := own_kept ho_w0 hg d_w0_g0
  replace ho_g0 := ho'
  replace hB := below_row hg hB hrow
  clear hg hrow ho'
  go_wp2_with fail
  refine (heldInt64S_b _ _ 1 _ (own_sl ho_g0 zg) bg (by omega) (by omega)).mono ?_; rintro e w11 ⟨rfl, hb⟩
  replace ho_w0 := own_below ho_w0 hb
  replace ho_g0 := own_below ho_g0 hb
  replace hB := below_tr hb hB
  clear hb
  go_wp2_with fail
  refine (toInt64S_any _ x0 _ (s0.below hB) b0).mono ?_; rintro e w12 ⟨t0_, rfl, ho_t0_, hb⟩
  have d_w0_t0_ := dj_new ho_w0 ho_t0_
  have d_g0_t0_ := dj_new ho_g0 ho_t0_
  replace ho_w0 := own_below ho_w0 hb
  replace ho_g0 := own_below ho_g0 hb
  replace ho_t0_ := own_mono ho_t0_ hB.size
  replace hB := below_tr hb hB
  clear hb
  go_wp2_with fail
  refine (impl_any _ _ x0 i0 b0 (own_sl ho_t0_ z0) a1 i1 a2 i2).mono ?_; rintro e w13 ⟨h0, rfl, ho_h0, hb⟩
  have d_w0_h0 := dj_new ho_w0 ho_h0
  have d_g0_h0 := dj_new ho_g0 ho_h0
  have d_t0__h0 := dj_new ho_t0_ ho_h0
  replace ho_w0 := own_below ho_w0 hb
  replace ho_g0 := own_below ho_g0 hb
  replace ho_t0_ := own_below ho_t0_ hb
  replace ho_h0 := own_mono ho_h0 hB.size
  replace hB := below_tr hb hB
  clear hb
  go_wp2_with fail
  refine (eqInt64S_b _ _ _ _ _ (own_sl ho_h0 zg) (own_sl ho_w0 zg)).mono ?_; rintro e w14 ⟨rfl, hb⟩
  replace ho_w0 := own_below ho_w0 hb
  replace ho_g0 := own_below ho_g0 hb
  replace ho_t0_ := own_below ho_t0_ hb
  replace ho_h0 := own_below ho_h0 hb
  replace hB := below_tr hb hB
  clear hb
  go_wp2_with fail
  refine (heldInt64S_b _ _ 1 _ (own_sl ho_g0 zg) bg (by omega) (by omega)).mono ?_; rintro e w15 ⟨rfl, hb⟩
  replace ho_w0 := own_below ho_w0 hb
  replace ho_g0 := own_below ho_g0 hb
  replace ho_t0_ := own_below ho_t0_ hb
  replace ho_h0 := own_below ho_h0 hb
  replace hB := below_tr hb hB
  clear hb
  go_wp2_with fail
  go_ret
  exact ⟨rfl, hB⟩

theorem own : ownKnob Try.prog.godebug = none := by kernel_rfl
theorem laidOut : laidOutB Try.prog = true := by kernel_rfl

set_option maxRecDepth 100000 in
theorem lifted (os : Os) (started : os.Started) (H : Type) (enc : TypeId × Value → H) :
    ReturnsInHanded {} Try.checked os 10 .any (Rows.fnExactTurnTableSpec.pre6 enc Try.prog Try.f10 Rows.fnExactTurnTableRow.domain false) (Rows.fnExactTurnTableSpec.post enc Try.prog Try.f10 false true false false) := by
  refine returnsInHanded_of_change (C := Try.checked) own started (by as_aux_lemma => kernel_rfl) Try.func10
    (ChangeSpec.witness6 (enc := enc) (C := Try.checked) false ⟨#[], #[.slice none 0 0, .int .i64 0, .int .i64 0], []⟩ 8 (by as_aux_lemma => kernel_rfl) (by as_aux_lemma => kernel_rfl) (by as_aux_lemma => kernel_rfl) (by as_aux_lemma => kernel_rfl)) ?_
  intro W base args ds gs before hval0 hW hcnd _
  have hval : ∀ (j : Nat) t v, Try.f10.params[j]? = some t → args[j]? = some v → Value.okWide Try.prog W .any base t v := hval0
  have hW' := hW
  obtain ⟨p, q, hA0, hV, rfl, hfz, hnd⟩ := hW
  have hA : DataW.TrodAll enc Try.prog W 0 (fun _ => true) true Try.f10.params.toList args.toList ds p := hA0
  rw [Try.params10] at hA hval
  obtain ⟨v0, vs0, d0, ds0, p0, q0, hargs, rfl, rfl, h0, r0⟩ := trodAll_cons hA
  obtain ⟨v1, vs1, d1, ds1, p1, q1, rfl, rfl, rfl, h1, r1⟩ := trodAll_cons r0
  obtain ⟨v2, vs2, d2, ds2, p2, q2, rfl, rfl, rfl, h2, r2⟩ := trodAll_cons r1
  obtain ⟨rfl, rfl, rfl⟩ := trodAll_nil r2
  obtain rfl : args = #[v0, v1, v2] := by cases args; simp_all
  obtain ⟨rfl, rfl⟩ := trodVars_none hV
  have k0 := h0
  have lt0 : ∀ x ∈ p0, x.block < W.heap.size := by obtain ⟨m, hm⟩ := k0; exact DataW.trod_lt m _ _ _ hm
  obtain ⟨s0, len0, cap0, rfl⟩ := okWide_slice Try.underlying28 (hval 0 28 v0 rfl rfl)
  obtain ⟨x0, _, i0, w0⟩ := arg_ints Try.underlying28 Try.underlying2 (by as_aux_lemma => kernel_rfl) h0
  obtain ⟨a1, rfl, rfl, rfl, w1⟩ := open_int Try.underlying2 (hval 1 2 v1 rfl rfl) h1
  obtain ⟨a2, rfl, rfl, rfl, w2⟩ := open_int Try.underlying2 (hval 2 2 v2 rfl rfl) h2
  clear hA0 hval0
  refine (walk W _ x0 i0 w0 a1 (i64_of_wf w1) a2 (i64_of_wf w2)).mono fun e W' ⟨he, bel⟩ => ?_
  subst he
  exact ⟨_, rfl, _, _, _, [], _, [], hW', trodAll_mk1 (shut_bool Try.underlying4 _), (trodAll_cons_mk (Below.trod laidOut (by as_aux_lemma => kernel_rfl) (of_decide_eq_true (by as_aux_lemma => kernel_rfl)) k0 bel lt0) (trodAll_cons_mk (shut_int Try.underlying2 w1) (trodAll_cons_mk (shut_int Try.underlying2 w2) (trodAll_mk0)))), rfl, bel.frame _, fun h => by cases h⟩

/-- The given statement. -/
theorem proved : Rows.FnExactTurnTableSaid :=
  OpenClaim.holds_of_wide 10 Try.f10 rfl rfl rfl rfl rfl rfl rfl ⟨rfl, rfl, rfl, rfl, rfl⟩ rfl rfl rfl rfl rfl (by kernel_rfl) Try.func10 (by kernel_rfl)
    (of_decide_eq_true (by kernel_rfl)) (by unfold Func.isWrapper; first | (rw [if_pos (by decide +kernel)]; kernel_rfl) | (rw [if_neg (by decide +kernel)]; exact ⟨rfl, rfl⟩))
    (fun os started H enc _ => lifted os started H enc)
#print axioms proved

end Go.Proofs.Ytcfkcahibkpjhaa.lFnExactTurnTable
