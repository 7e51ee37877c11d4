/- Shifts, the program's side: the state behind a slot, and how many shifts there are behind a state, found again in a map. -/
import Derived.Test.YtmjdhignhdphpaaDoorProg
import Derived.Test.YtmjdhignhdphpaaDoorCrews
import Derived.Test.YtmjdhignhdphpaaDoorRule
import Derived.Test.YtmjdhignhdphpaaDoorShiftT
import Derived.Test.YtmjdhignhdphpaaDoorStoreBox
import Derived.Maps.Own
import Derived.Maps.OwnSet
import Derived.Maps.Views
import Derived.DeepKeys4
import Derived.Sort.AtCall
namespace Go.Proofs.YtmjdhignhdphpaaDoor
open Go.RowKit Plain
set_option linter.unusedVariables false
set_option linter.unusedSimpArgs false
attribute [local go_sem ↓] Go.wp_at_zero Go.wp_at_succ

theorem laidOutS : laidOutB Tryd.prog = true := by kernel_rfl
theorem rowSt : (48 : TypeId) < Tryd.prog.types.size := of_decide_eq_true (by kernel_rfl)
theorem wideSt : (match Tryd.prog.underlying 48 with | some (.array _ _) | some (.struct _) => true | _ => false) = true := by kernel_rfl
set_option maxRecDepth 20000 in
theorem keySt : Go.Maps.Keyed Tryd.prog 48 := Go.Maps.Keyed.of_law (deep_law_laid laidOutS (m := 3) (by omega) rowSt (by kernel_rfl) wideSt)
/-- the program's state as a value -/
def stV (sl wk rw ps : Int) (bg : Bool) : Value := .agg #[.int .i64 sl, .int .i64 wk, .int .i64 rw, .int .i64 ps, .bool bg]
theorem wf_small {a : Int} (h : 0 ≤ a) (h2 : a ≤ 1000) : (Lit.int .i64 a).wf = true := by
  simp only [Lit.wf, IntKind.min, IntKind.max, IntKind.signed, IntKind.bits, Bool.and_eq_true, decide_eq_true_eq, if_true]
  omega
theorem keyOf_st {sl wk rw ps : Int} {bg : Bool} (h1 : (Lit.int .i64 sl).wf = true) (h2 : (Lit.int .i64 wk).wf = true) (h3 : (Lit.int .i64 rw).wf = true) (h4 : (Lit.int .i64 ps).wf = true) : ∃ l, keyOf Tryd.prog 48 (stV sl wk rw ps bg) = some l := by
  have hkt : Tryd.prog.keyType 48 = true := by kernel_rfl
  have hc : Tryd.prog.cellsOf 48 = 5 := by kernel_rfl
  have hci : Tryd.prog.cellsOf 2 = 1 := by kernel_rfl
  have hcb : Tryd.prog.cellsOf 4 = 1 := by kernel_rfl
  obtain ⟨m, hm⟩ : ∃ m, Tryd.prog.types.size = m + 1 := ⟨_, show Tryd.prog.types.size = (Tryd.prog.types.size - 1) + 1 by have : 0 < Tryd.prog.types.size := Nat.lt_of_le_of_lt (Nat.zero_le _) rowSt; omega⟩
  unfold keyOf
  simp only [Tryd.underlying48]
  rw [if_pos (by simp [hkt, Value.formed, Tryd.underlying48, hc, stV]), hm]
  unfold Program.keyLits
  simp only [Tryd.underlying48, Value.cells, stV]
  rw [if_pos ⟨by rw [hc]; rfl, by kernel_rfl⟩]
  simp [Program.keyLits, Tryd.underlying2, Tryd.underlying4, hci, hcb, h1, h2, h3, h4]

set_option maxHeartbeats 1000000 in
theorem next_end (S least most row pause wk rw ps : Int) (bg works : Bool) (w : World) :
    Calls Tryd.prog 17 #[.agg #[.int .i64 S, .int .i64 least, .int .i64 most, .int .i64 row, .int .i64 pause], stV S wk rw ps bg, .bool works] w fun r w' => r = .returned (.tuple #[stV S wk rw ps bg, .bool false]) ∧ Below w.heap.size w w' := by
  simp only [stV]
  go_enter Tryd.func17, Tryd.ntmps17
  go_wp2
  refine bodyPost_ret (v := .tuple #[.agg #[.int .i64 S, .int .i64 wk, .int .i64 rw, .int .i64 ps, .bool bg], .bool false]) (by simp [results, Tryd.results17, go_sem]) rfl ⟨rfl, ?_⟩
  go_grown
set_option maxHeartbeats 1000000 in
theorem next_free (S least most row pause sl wk rw ps : Int) (bg : Bool) (h1 : sl < S) (h0 : 0 ≤ sl) (hS : S ≤ 24) (h2 : 0 ≤ ps) (h3 : ps ≤ 24) (h4 : 1 ≤ pause) (h5 : pause ≤ 24) (w : World) :
    Calls Tryd.prog 17 #[.agg #[.int .i64 S, .int .i64 least, .int .i64 most, .int .i64 row, .int .i64 pause], stV sl wk rw ps bg, .bool false] w fun r w' => r = .returned (.tuple #[stV (sl + 1) wk 0 (min (ps + 1) pause) bg, .bool true]) ∧ Below w.heap.size w w' := by
  simp only [stV]
  have hne : ¬ sl = S := by omega
  generalize hm : min (ps + 1) pause = mm
  have Hm := hd hm
  clear hm
  go_enter Tryd.func17, Tryd.ntmps17
  go_wp2
  all_goals
    refine bodyPost_ret (by simp [results, Tryd.results17, go_sem]; rfl) rfl ⟨?_, ?_⟩
    rotate_left
    · go_grown
    have := Hm.out
    simp_all
    try omega
set_option maxHeartbeats 1000000 in
theorem next_no (S least most row pause sl wk rw ps : Int) (bg : Bool) (h1 : sl < S) (h0 : 0 ≤ sl) (hS : S ≤ 24) (hb : ((bg && (decide (rw = 0) && decide (ps < pause))) || (decide (rw = row) || decide (wk = most))) = true) (w : World) :
    Calls Tryd.prog 17 #[.agg #[.int .i64 S, .int .i64 least, .int .i64 most, .int .i64 row, .int .i64 pause], stV sl wk rw ps bg, .bool true] w fun r w' => r = .returned (.tuple #[stV (sl + 1) wk rw ps bg, .bool false]) ∧ Below w.heap.size w w' := by
  simp only [stV]
  have hne : ¬ sl = S := by omega
  have HB := hd hb
  clear hb
  cases bg with
  | false =>
    go_enter Tryd.func17, Tryd.ntmps17
    go_wp2
    all_goals
      refine bodyPost_ret (by simp [results, Tryd.results17, go_sem]; rfl) rfl ⟨?_, ?_⟩
      rotate_left
      · go_grown
      have := HB.out
      skip
      simp_all
      try omega
  | true =>
    go_enter Tryd.func17, Tryd.ntmps17
    go_wp2
    all_goals
      refine bodyPost_ret (by simp [results, Tryd.results17, go_sem]; rfl) rfl ⟨?_, ?_⟩
      rotate_left
      · go_grown
      have := HB.out
      skip
      simp_all
      try omega
set_option maxHeartbeats 1000000 in
theorem next_yes (S least most row pause sl wk rw ps : Int) (bg : Bool) (h1 : sl < S) (h0 : 0 ≤ sl) (hS : S ≤ 24) (h2 : 0 ≤ wk) (h3 : wk ≤ 24) (h4 : 0 ≤ rw) (h5 : rw ≤ 24) (hb : ((bg && (decide (rw = 0) && decide (ps < pause))) || (decide (rw = row) || decide (wk = most))) = false) (w : World) :
    Calls Tryd.prog 17 #[.agg #[.int .i64 S, .int .i64 least, .int .i64 most, .int .i64 row, .int .i64 pause], stV sl wk rw ps bg, .bool true] w fun r w' => r = .returned (.tuple #[stV (sl + 1) (wk + 1) (rw + 1) 0 true, .bool true]) ∧ Below w.heap.size w w' := by
  simp only [stV]
  have hne : ¬ sl = S := by omega
  have HB := hd hb
  clear hb
  cases bg with
  | false =>
    go_enter Tryd.func17, Tryd.ntmps17
    go_wp2
    all_goals
      refine bodyPost_ret (by simp [results, Tryd.results17, go_sem]; rfl) rfl ⟨?_, ?_⟩
      rotate_left
      · go_grown
      have := HB.out
      skip
      simp_all
      try omega
  | true =>
    go_enter Tryd.func17, Tryd.ntmps17
    go_wp2
    all_goals
      refine bodyPost_ret (by simp [results, Tryd.results17, go_sem]; rfl) rfl ⟨?_, ?_⟩
      rotate_left
      · go_grown
      have := HB.out
      skip
      simp_all
      try omega

end Go.Proofs.YtmjdhignhdphpaaDoor
