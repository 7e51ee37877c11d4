/- Shifts: CountShifts, on both sides. -/
import Derived.Test.YtmjdhignhdphpaaDoorProg
import Derived.Test.YtmjdhignhdphpaaDoorRule
import Derived.Test.YtmjdhignhdphpaaDoorShiftC
import Derived.Test.YtmjdhignhdphpaaDoorShiftK
import Derived.Carry
namespace Go.Proofs.YtmjdhignhdphpaaDoor
open Go.RowKit Plain
set_option linter.unusedVariables false
set_option linter.unusedSimpArgs false
attribute [local go_sem ↓] Go.wp_at_zero Go.wp_at_succ

/-- the limits of a rule -/
def limS (r : SR) : ShiftLim := ⟨r.least, r.most, r.row, r.pause⟩
/-- what both return -/
def cntS (r : SR) : Int := if validS r then (cS (limS r) r.slots.toNat ShiftPt.start : Int) else 0
theorem valid_bd {r : SR} (h : validS r = true) : (1 ≤ r.slots ∧ r.slots ≤ 24) ∧ (0 ≤ r.least ∧ r.least ≤ 24) ∧ (0 ≤ r.most ∧ r.most ≤ 24) ∧ (1 ≤ r.row ∧ r.row ≤ 24) ∧ (1 ≤ r.pause ∧ r.pause ≤ 24) := by
  have := validS_iff.1 h
  omega

theorem asShifts_any (r : SR) (w : World) :
    Calls Tryd.prog 16 #[r.val] w fun e w' => ∃ b, e = .returned (.agg #[.int .i64 r.slots, .int .i64 r.least, .int .i64 r.most, .int .i64 r.row, .int .i64 r.pause, .map (some b)]) ∧ Known w' (limS r) r.slots b 0 ∧ w.heap.size ≤ b ∧ Below w.heap.size w w' := by
  obtain ⟨a, b, c, d, e⟩ := r
  simp only [SR.val] at *
  have hmm := @run_makeMap Tryd.prog
  go_enter Tryd.func16, Tryd.ntmps16
  go_wp2
  clear hmm
  refine bodyPost_ret (by simp [results, Tryd.results16, go_sem] <;> rfl) rfl ⟨_, rfl, ?_, ?_, ?_⟩
  · have h := known_made ((w.alloc (.cells #[.int .i64 a, .int .i64 b, .int .i64 c, .int .i64 d, .int .i64 e] 26)).alloc (.cells #[.int .i64 a, .int .i64 b, .int .i64 c, .int .i64 d, .int .i64 e, .map (some (w.heap.size + 1 + 1))] 45)) (limS ⟨a, b, c, d, e⟩) a
    simp only [World.size_alloc] at h
    exact h
  · omega
  · exact (((Below.refl w.heap.size w).alloc (Nat.le_refl _) _).alloc (by simp) _).alloc (by simp; omega) _

end Go.Proofs.YtmjdhignhdphpaaDoor
