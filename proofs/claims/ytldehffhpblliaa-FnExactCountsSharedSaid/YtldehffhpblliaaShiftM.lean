/- Shifts: CountShifts, on both sides. -/
import Derived.Test.YtldehffhpblliaaProg
import Derived.Test.YtldehffhpblliaaRule
import Derived.Test.YtldehffhpblliaaShiftC
import Derived.Test.YtldehffhpblliaaShiftK
import Derived.Carry
namespace Go.Proofs.Ytldehffhpblliaa
open Go.RowKit Plain
set_option linter.unusedVariables false
set_option linter.unusedSimpArgs false
attribute [local go_sem ↓] Go.wp_at_zero Go.wp_at_succ

/-- the limits of a rule -/
def limS (r : SR) : ShiftLim := ⟨r.least, r.most, r.row, r.pause⟩
/-- what both return -/
def cntS (r : SR) : Int := if validS r then (cS (limS r) r.slots.toNat ShiftPt.start : Int) else 0
theorem valid_bd {r : SR} (h : validS r = true) : (1 ≤ r.slots ∧ r.slots ≤ 24) ∧ (0 ≤ r.least ∧ r.least ≤ 24) ∧ (0 ≤ r.most ∧ r.most ≤ 24) ∧ (1 ≤ r.row ∧ r.row ≤ 24) ∧ (1 ≤ r.pause ∧ r.pause ≤ 24) := by
  have := validS_iff.1 h
  omega

theorem asShifts_any (r : SR) (w : World) :
    Calls Try.prog 43 #[r.val] w fun e w' => ∃ b, e = .returned (.agg #[.int .i64 r.slots, .int .i64 r.least, .int .i64 r.most, .int .i64 r.row, .int .i64 r.pause, .map (some b)]) ∧ Known w' (limS r) r.slots b 0 ∧ w.heap.size ≤ b ∧ Below w.heap.size w w' := by
  obtain ⟨a, b, c, d, e⟩ := r
  simp only [SR.val] at *
  have hmm := @run_makeMap Try.prog
  go_enter Try.func43, Try.ntmps43
  go_wp2
  clear hmm
  refine bodyPost_ret (by simp [results, Try.results43, go_sem] <;> rfl) rfl ⟨_, rfl, ?_, ?_, ?_⟩
  · have h := known_made ((w.alloc (.cells #[.int .i64 a, .int .i64 b, .int .i64 c, .int .i64 d, .int .i64 e] 38)).alloc (.cells #[.int .i64 a, .int .i64 b, .int .i64 c, .int .i64 d, .int .i64 e, .map (some (w.heap.size + 1 + 1))] 71)) (limS ⟨a, b, c, d, e⟩) a
    simp only [World.size_alloc] at h
    exact h
  · omega
  · exact (((Below.refl w.heap.size w).alloc (Nat.le_refl _) _).alloc (by simp) _).alloc (by simp; omega) _

set_option maxHeartbeats 1000000 in
theorem specCountShifts_any (r : SR) (w : World) :
    Calls Try.prog 17 #[r.val] w fun e w' => e = .returned (.tuple #[.int .i64 (cntS r), .bool (validS r)]) ∧ Below w.heap.size w w' := by
  have hI := hd (fun W h => l06Is_any r w.heap.size 0 W h)
  cases hv : validS r with
  | false =>
    have HM := hd (show cntS r = 0 by rw [cntS, hv]; rfl)
    rw [HM.out]
    simp only [hv] at hI
    clear hv
    obtain ⟨a, b, c, d, e⟩ := r
    simp only [SR.val] at *
    go_enter Try.func17, Try.ntmps17
    go_wp2_with fail
    refine (hI.out _ ⟨?_, ?_, ?_, ?_, ?_⟩).mono ?_
    case refine_6 =>
      rintro e w' ⟨rfl, m, rfl⟩
      go_wp2
      refine bodyPost_ret (by simp [results, Try.results17, go_sem] <;> rfl) rfl ⟨rfl, ?_⟩
      exact below_drewN (by go_grown) m
    all_goals simp [go_sem]
  | true =>
    have HM := hd (show cntS r = (cS (limS r) r.slots.toNat ShiftPt.start : Int) by rw [cntS, hv]; rfl)
    obtain ⟨b1, b2, b3, b4, b5⟩ := valid_bd hv
    have hC := hd (fun W h => l06Count_any w.heap.size 0 r.slots r.least r.most r.row r.pause W h b1 b2 b3 b4 b5)
    rw [HM.out]
    simp only [limS]
    simp only [hv] at hI
    generalize (cS ⟨r.least, r.most, r.row, r.pause⟩ r.slots.toNat ShiftPt.start : Int) = q at *
    clear hv b1 b2 b3 b4 b5
    obtain ⟨a, b, c, d, e⟩ := r
    simp only [SR.val] at *
    go_enter Try.func17, Try.ntmps17
    go_wp2_with fail
    refine (hI.out _ ⟨?_, ?_, ?_, ?_, ?_⟩).mono ?_
    case refine_6 =>
      rintro e w' ⟨rfl, m, rfl⟩
      go_wp2_with fail
      refine (hC.out _ ⟨?_, ?_, ?_, ?_, ?_⟩).mono ?_
      case refine_6 =>
        rintro e w' ⟨rfl, hb⟩
        go_wp2
        refine bodyPost_ret (by simp [results, Try.results17, go_sem] <;> rfl) rfl ⟨rfl, ?_⟩
        exact below_tr hb (below_drewN (by go_grown) m)
      all_goals simp [go_sem]
    all_goals simp [go_sem]

set_option maxHeartbeats 1000000 in
theorem implCountShifts_any (r : SR) (w : World) :
    Calls Try.prog 19 #[r.val] w fun e w' => e = .returned (.tuple #[.int .i64 (cntS r), .bool (validS r)]) ∧ Below w.heap.size w w' := by
  have hI := hd (fun W => ValidRule_any r W)
  cases hv : validS r with
  | false =>
    have HM := hd (show cntS r = 0 by rw [cntS, hv]; rfl)
    rw [HM.out]
    simp only [hv] at hI
    clear hv
    obtain ⟨a, b, c, d, e⟩ := r
    simp only [SR.val] at *
    go_enter Try.func19, Try.ntmps19
    go_wp2_with (go_at_call 42; refine (hI.out _).mono ?_; rintro e w1 ⟨rfl, hb1⟩)
    refine bodyPost_ret (by simp [results, Try.results19, go_sem] <;> rfl) rfl ⟨rfl, ?_⟩
    exact below_tr hb1 (by go_grown)
  | true =>
    have HM := hd (show cntS r = (cS (limS r) r.slots.toNat ShiftPt.start : Int) by rw [cntS, hv]; rfl)
    obtain ⟨b1, b2, b3, b4, b5⟩ := valid_bd hv
    have hA := hd (fun W => asShifts_any r W)
    have hC := hd (fun b W (h : Known W ⟨r.least, r.most, r.row, r.pause⟩ r.slots b 0) => count_any r.slots r.least r.most r.row r.pause b b1 b2 b3 b4 b5 r.slots.toNat 0 0 0 0 0 false W (by omega) (by omega) (by omega) (by omega) (good_start _ b3.1 (by show (0 : Int) ≤ r.row; omega)) h (by
      have : (2 : Nat) ^ r.slots.toNat ≤ 2 ^ 24 := Nat.pow_le_pow_right (by omega) (by omega)
      omega))
    simp only [abs_start] at hC
    rw [HM.out]
    simp only [limS] at hA ⊢
    simp only [hv] at hI
    generalize (cS ⟨r.least, r.most, r.row, r.pause⟩ r.slots.toNat ShiftPt.start : Int) = q at *
    clear hv b1 b2 b3 b4 b5
    obtain ⟨a, b, c, d, e⟩ := r
    simp only [SR.val, stV] at *
    go_enter Try.func19, Try.ntmps19
    go_wp2_with fail
    refine (hI.out _).mono ?_
    rintro e w1 ⟨rfl, hb1⟩
    have c0 := below_at hb1 (a := ⟨w.heap.size, 0, none⟩) (v := .int .i64 a) (by simp [go_sem])
    have c1 := below_at hb1 (a := ⟨w.heap.size, 1, none⟩) (v := .int .i64 b) (by simp [go_sem])
    have c2 := below_at hb1 (a := ⟨w.heap.size, 2, none⟩) (v := .int .i64 c) (by simp [go_sem])
    have c3 := below_at hb1 (a := ⟨w.heap.size, 3, none⟩) (v := .int .i64 d) (by simp [go_sem])
    have c4 := below_at hb1 (a := ⟨w.heap.size, 4, none⟩) (v := .int .i64 e) (by simp [go_sem])
    have hb1' := below_tr hb1 ((Below.refl w.heap.size w).alloc (Nat.le_refl _) _)
    clear hb1
    go_wp2_with fail
    refine (hA.out _).mono ?_
    rintro e2 w2 ⟨g, rfl, hk, hg, hb2⟩
    have hg2 : w.heap.size ≤ g := Nat.le_trans hb1'.size hg
    have hb2' := below_tr hb2 hb1'
    clear hb2 hb1' c0 c1 c2 c3 c4
    go_wp2_with fail
    refine (hC.out g _ hk).mono ?_
    rintro e3 w3 ⟨rfl, _, hg3⟩
    go_wp2
    refine bodyPost_ret (by simp [results, Try.results19, go_sem] <;> rfl) rfl ⟨rfl, ?_⟩
    exact below_row hg3 hb2' (fun k hk => by cases hk; exact hg2)

end Go.Proofs.Ytldehffhpblliaa
