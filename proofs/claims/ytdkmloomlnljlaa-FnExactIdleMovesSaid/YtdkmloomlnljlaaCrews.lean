/- Chapter 6: trips, shifts, waits. -/
import Derived.Test.YtdkmloomlnljlaaNum
import Derived.Test.YtdkmloomlnljlaaWords
import Derived.Test.YtdkmloomlnljlaaSlice
namespace Go.Proofs.Ytdkmloomlnljlaa
open Go.RowKit Plain
set_option linter.unusedVariables false
set_option linter.unusedSimpArgs false
attribute [local go_sem ↓] Go.wp_at_zero Go.wp_at_succ

/-- moves are valid -/
def movesB (xs : List Int) : Bool := manyIn xs 64 64 0 1000 && (List.range 8).all fun i => xs.getD (i * 9) 0 == 0
theorem movesB_iff {xs : List Int} : movesB xs = true ↔ xs.length = 64 ∧ (∀ i, i < 64 → inR (xs.getD i 0) 0 1000 = true) ∧ ∀ i, i < 8 → xs.getD (i * 9) 0 = 0 := by
  simp only [movesB, manyIn, Bool.and_eq_true, decide_eq_true_eq, List.all_eq_true, List.mem_range, beq_iff_eq]
  constructor
  · rintro ⟨⟨h1, h2, h3⟩, h4⟩
    refine ⟨by omega, fun i hi => h3 _ ?_, h4⟩
    have hl : i < xs.length := by omega
    rw [List.getD_eq_getElem?_getD, List.getElem?_eq_getElem hl]
    exact List.getElem_mem _
  · rintro ⟨h1, h2, h3⟩
    refine ⟨⟨by omega, by omega, fun x hx => ?_⟩, h3⟩
    obtain ⟨i, hi, rfl⟩ := List.getElem_of_mem hx
    have := h2 i (by omega)
    rwa [List.getD_eq_getElem?_getD, List.getElem?_eq_getElem hi] at this

/-- the first k moves are valid -/
def movesTo (xs : List Int) (k : Nat) : Prop := ∀ j, j < k → inR (xs.getD j 0) 0 1000 = true ∧ (j % 9 = 0 → xs.getD j 0 = 0)
theorem movesTo_succ {xs : List Int} {k : Nat} (h : movesTo xs k) (h1 : inR (xs[k]?.getD 0) 0 1000 = true) (h2 : k % 9 = 0 → xs[k]?.getD 0 = 0) : movesTo xs (k + 1) := by
  intro j hj
  by_cases e : j = k
  · subst e; rw [List.getD_eq_getElem?_getD]; exact ⟨h1, h2⟩
  · exact h j (by omega)
theorem moves_no1 {xs : List Int} {k : Nat} (hk : k < xs.length) (h : ¬ inR (xs[k]?.getD 0) 0 1000 = true) : movesB xs = false := by
  rw [Bool.eq_false_iff]
  intro hm
  have hm := movesB_iff.1 hm
  have := hm.2.1 k (by omega)
  rw [List.getD_eq_getElem?_getD] at this
  exact h this
theorem moves_no2 {xs : List Int} {k : Nat} (hk : k < xs.length) (h9 : k % 9 = 0) (h : ¬ xs[k]?.getD 0 = 0) : movesB xs = false := by
  rw [Bool.eq_false_iff]
  intro hm
  have hm := movesB_iff.1 hm
  have := hm.2.2 (k / 9) (by omega)
  rw [show k / 9 * 9 = k by omega, List.getD_eq_getElem?_getD] at this
  exact h this
theorem moves_end {xs : List Int} (h : movesTo xs xs.length) : movesB xs = decide (xs.length = 64) := by
  rw [Bool.eq_iff_iff, movesB_iff, decide_eq_true_eq]
  refine ⟨fun h => h.1, fun hl => ⟨hl, fun i hi => (h i (by omega)).1, fun i hi => (h (i * 9) (by omega)).2 (by omega)⟩⟩

set_option maxHeartbeats 400000 in
theorem AreMoves_any (v : Value) (xs : List Int) (w : World) (hs : Sl w 1 v xs.length (xs.map vi)) :
    Calls Try.prog 17 #[v] w fun r w' => r = .returned (.bool (movesB xs)) ∧ w = w' := by
  have hs' := hs
  obtain ⟨A, cap, rfl, hcap, hr⟩ := hs
  by_cases h1 : manyIn xs 64 64 0 1000 = true
  · have hl : xs.length = 64 := by simp [manyIn] at h1; omega
    have H1 := hd h1
    have Hl := hd hl
    clear hl
    go_enter Try.func17, Try.ntmps17
    go_wp2_with (go_at_call 18; refine (areMany_any _ xs _ _ _ _ _ hs').mono ?_; rintro e w' ⟨rfl, rfl⟩)
    clear h1 hs'
    rw [Hl.out] at hr hcap ⊢
    go_loop [7] (fun i => ∃ k : Nat, k ≤ 8 ∧ i = .int .i64 k ∧ Hid (∀ j, j < k → xs.getD (j * 9) 0 = 0)) (fun i => 8 - (intOf i).toNat)
    case atStart => exact ⟨0, by omega, rfl, by simp [Hid]⟩
    case round =>
      obtain ⟨k, hk, rfl, ha⟩ := hrel
      by_cases hlt : k < 8
      · obtain ⟨b, off, rfl, hc⟩ := hr.int (k := k * 9) (by omega)
        have e : (k : Int) * 8 + k = ((k * 9 : Nat) : Int) := by omega
        have e2 : ((k : Int) * 8 + k).toNat = k * 9 := by omega
        go_wp2
        · have h : (xs[k * 9]?.getD 0 != 0) = true := by assumption
          go_ret
          refine ⟨ret_bool ?_, rfl⟩
          symm
          rw [Bool.eq_false_iff]
          intro hm
          have := (movesB_iff.1 hm).2.2 k hlt
          rw [List.getD_eq_getElem?_getD] at this
          simp [this] at h
        · have h : (xs[k * 9]?.getD 0 != 0) = false := by assumption
          go_round
          case rel =>
            refine ⟨k + 1, by omega, by go_num, fun j hj => ?_⟩
            by_cases hjk : j = k
            · subst hjk; rw [List.getD_eq_getElem?_getD]; simpa using h
            · exact ha.out j (by omega)
          case measure => simp [intOf]; omega
      · go_wp2
        go_ret
        refine ⟨ret_bool ?_, rfl⟩
        symm
        rw [movesB, H1.out, Bool.true_and, List.all_eq_true]
        intro i hi
        simpa using ha.out i (by have := List.mem_range.1 hi; omega)
  · have H1 := hd h1
    have h2 : movesB xs = false := by rw [movesB, Bool.eq_false_iff.2 h1]; rfl
    have H2 := hd h2
    rw [Bool.not_eq_true] at h1
    clear h2
    go_enter Try.func17, Try.ntmps17
    go_wp2_with (go_at_call 18; refine (areMany_any _ xs _ _ _ _ _ hs').mono ?_; rintro e w' ⟨rfl, rfl⟩)
    go_ret
    exact ⟨ret_bool H2.out.symm, rfl⟩

set_option maxHeartbeats 400000 in
theorem l06Moves_any (v : Value) (xs : List Int) (w : World) (hs : Sl w 1 v xs.length (xs.map vi)) :
    Calls Try.prog 12 #[v] w fun r w' => r = .returned (.bool (movesB xs)) ∧ w = w' := by
  obtain ⟨A, cap, rfl, hcap, hr⟩ := hs
  have hm := hr.2.1
  unfold maxLen at hm
  generalize hn : xs.length = n at *
  have Hn := hd hn
  clear hn
  go_enter Try.func12, Try.ntmps12
  go_wp2
  go_loop [3] (fun i => ∃ k : Nat, k ≤ n ∧ i = .int .i64 k ∧ Hid (movesTo xs k)) (fun i => n - (intOf i).toNat)
  case atStart => exact ⟨0, by omega, rfl, by simp [Hid, movesTo]⟩
  case round =>
    obtain ⟨k, hk, rfl, ha⟩ := hrel
    by_cases hlt : k < n
    · obtain ⟨b, off, rfl, hc⟩ := hr.int hlt
      go_wp2_with (go_at_call 13; refine (l00In_any _ _ _ _).mono ?_; rintro e w' ⟨rfl, rfl⟩)
      all_goals have hl : k < xs.length := by have := Hn.out; omega
      · go_ret
        refine ⟨ret_bool (moves_no2 hl (by omega) (bne_t (by assumption))).symm, rfl⟩
      · go_round
        case rel => exact ⟨k + 1, by omega, by go_num, movesTo_succ ha.out (by assumption) (fun _ => bne_f (by assumption))⟩
        case measure => simp [intOf]; omega
      · go_round
        case rel => exact ⟨k + 1, by omega, by go_num, movesTo_succ ha.out (by assumption) (fun _ => by omega)⟩
        case measure => simp [intOf]; omega
      · go_ret
        refine ⟨ret_bool (moves_no1 hl (by assumption)).symm, rfl⟩
    · go_wp2
      go_ret
      refine ⟨ret_bool ?_, rfl⟩
      have e : k = xs.length := by have := Hn.out; omega
      rw [moves_end (e ▸ ha.out), Hn.out]
      rw [Bool.eq_iff_iff]
      simp
      omega

/-! ## rules of shifts -/
/-- the rule lies at block g from cell o on -/
structure SRat (w : World) (g o : Nat) (r : SR) : Prop where
  c0 : w.cell? ⟨g, o, none⟩ = some (.int .i64 r.slots)
  c1 : w.cell? ⟨g, o + 1, none⟩ = some (.int .i64 r.least)
  c2 : w.cell? ⟨g, o + 2, none⟩ = some (.int .i64 r.most)
  c3 : w.cell? ⟨g, o + 3, none⟩ = some (.int .i64 r.row)
  c4 : w.cell? ⟨g, o + 4, none⟩ = some (.int .i64 r.pause)
theorem SRat.below {w w' : World} {g o : Nat} {r : SR} (h : SRat w g o r) (hb : Below w.heap.size w w') : SRat w' g o r :=
  ⟨below_at hb h.c0, below_at hb h.c1, below_at hb h.c2, below_at hb h.c3, below_at hb h.c4⟩
def validS (r : SR) : Bool := inR r.slots 1 24 && (inR r.most 0 r.slots && (inR r.least 0 r.most && (inR r.row 1 r.slots && inR r.pause 1 r.slots)))
theorem validS_iff {r : SR} : validS r = true ↔ (1 ≤ r.slots ∧ r.slots ≤ 24) ∧ (0 ≤ r.most ∧ r.most ≤ r.slots) ∧ (0 ≤ r.least ∧ r.least ≤ r.most) ∧ (1 ≤ r.row ∧ r.row ≤ r.slots) ∧ (1 ≤ r.pause ∧ r.pause ≤ r.slots) := by
  simp [validS, inR]
theorem sameR_iff {r s : SR} : (r.slots = s.slots ∧ r.least = s.least ∧ r.most = s.most ∧ r.row = s.row ∧ r.pause = s.pause) ↔ r = s := by
  cases r; cases s; simp

