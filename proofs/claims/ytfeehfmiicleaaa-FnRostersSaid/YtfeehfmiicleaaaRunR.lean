/- RosterRuns of the program: a contract (cut from the law's text). -/
import Derived.Test.YtfeehfmiicleaaaProg
import Derived.Test.YtfeehfmiicleaaaStrs
import Derived.Test.YtfeehfmiicleaaaMaxMin
import Derived.StillTailTactics
namespace Go.Proofs.Ytfeehfmiicleaaa.RunR
open Go.RowKit Go.Proofs.Ytfeehfmiicleaaa Plain
set_option linter.unusedVariables false
set_option linter.unusedSimpArgs false
attribute [local go_sem ↓] Go.wp_at_zero Go.wp_at_succ

/-- the runs at the end, and the longest so far: of work, of free days -/
structure RR where
  a : Int
  b : Int
  p : Int
  q : Int
def rrStep (r : RR) (c : Int) : RR := if c = 46 then ⟨0, r.b + 1, r.p, max r.q (r.b + 1)⟩ else ⟨r.a + 1, 0, max r.p (r.a + 1), r.q⟩
def rrTo (l : List Int) (k : Nat) : RR := (l.take k).foldl rrStep ⟨0, 0, 0, 0⟩
theorem rr_succ {l : List Int} {k : Nat} {c : Int} (h : l[k]? = some c) : rrTo l (k + 1) = rrStep (rrTo l k) c := by
  rw [rrTo, List.take_add_one, h, List.foldl_append]; rfl
theorem rr_bd (l : List Int) (k : Nat) : 0 ≤ (rrTo l k).a ∧ (rrTo l k).a ≤ k ∧ 0 ≤ (rrTo l k).b ∧ (rrTo l k).b ≤ k ∧ 0 ≤ (rrTo l k).p ∧ (rrTo l k).p ≤ k ∧ 0 ≤ (rrTo l k).q ∧ (rrTo l k).q ≤ k := by
  induction k with
  | zero => simp [rrTo]
  | succ k ih =>
    cases h : l[k]? with
    | none =>
      have e : rrTo l (k + 1) = rrTo l k := by rw [rrTo, List.take_add_one, h]; simp [rrTo]
      rw [e]; omega
    | some c =>
      rw [rr_succ h, rrStep]
      split <;> simp only <;> omega
def M (l : List Int) : Int × Int × Bool := if patB l 128 then ((rrTo l l.length).p, (rrTo l l.length).q, true) else (0, 0, false)

theorem fold_mono (l : List Int) (r : RR) : r.p ≤ (l.foldl rrStep r).p ∧ r.q ≤ (l.foldl rrStep r).q := by
  induction l generalizing r with
  | nil => exact ⟨Int.le_refl _, Int.le_refl _⟩
  | cons c l ih =>
    have h := ih (rrStep r c)
    have h2 : r.p ≤ (rrStep r c).p ∧ r.q ≤ (rrStep r c).q := by
      rw [rrStep]
      split <;> simp only <;> omega
    rw [List.foldl_cons]
    omega
/-- twice the same days: no run is shorter -/
theorem rr_twice (l : List Int) : (rrTo l l.length).p ≤ (rrTo (l ++ l) (l ++ l).length).p ∧ (rrTo l l.length).q ≤ (rrTo (l ++ l) (l ++ l).length).q := by
  have e : rrTo (l ++ l) (l ++ l).length = l.foldl rrStep (rrTo l l.length) := by
    rw [rrTo, List.take_length, List.foldl_append, rrTo, List.take_length]
  rw [e]
  exact fold_mono l _
/-- there is a run of one kind -/
theorem rr_some {l : List Int} (h : l ≠ []) : 1 ≤ (rrTo l l.length).p + (rrTo l l.length).q := by
  cases l with
  | nil => exact absurd rfl h
  | cons c l =>
    rw [rrTo, List.take_length, List.foldl_cons]
    have h1 := fold_mono l (rrStep ⟨0, 0, 0, 0⟩ c)
    have h2 : 1 ≤ (rrStep ⟨0, 0, 0, 0⟩ c).p + (rrStep ⟨0, 0, 0, 0⟩ c).q ∧ 0 ≤ (rrStep ⟨0, 0, 0, 0⟩ c).p ∧ 0 ≤ (rrStep ⟨0, 0, 0, 0⟩ c).q := by
      rw [rrStep]
      split <;> simp only <;> omega
    omega
set_option maxRecDepth 100000 in
theorem impl_any (w : World) (s : ByteArray) (hs : s.size ≤ maxLen) :
    Calls Try.prog 7 #[.string s] w fun r w' => r = .returned (.tuple #[.int .i64 (M (bs s)).1, .int .i64 (M (bs s)).2.1, .bool (M (bs s)).2.2]) ∧ Below w.heap.size w w' := by
  have hd0 := hd (isPattern_any s 128 w hs)
  cases h1 : patB (bs s) 128 with
  | false =>
    have H := hd (show M (bs s) = (0, 0, false) by rw [M, h1]; rfl)
    rw [h1] at hd0
    clear h1
    go_enter Try.func7, Try.ntmps7
    go_wp2_with (go_at_call 13; refine hd0.out.mono ?_; rintro e w' ⟨rfl, rfl⟩)
    go_ret3
    rw [H.out]
    exact ⟨rfl, Below.refl _ _⟩
  | true =>
    have H := hd (show M (bs s) = ((rrTo (bs s) (bs s).length).p, (rrTo (bs s) (bs s).length).q, true) by rw [M, h1]; rfl)
    have hsz : s.size ≤ 128 := by
      have : (s.size : Int) ≤ 128 := by
        simp only [patB, Bool.and_eq_true, decide_eq_true_eq, bs_len] at h1
        omega
      omega
    rw [h1] at hd0
    clear h1 hs
    go_enter Try.func7, Try.ntmps7
    go_wp2_with (go_at_call 13; refine hd0.out.mono ?_; rintro e w' ⟨rfl, rfl⟩)
    clear hd0
    go_loopw [16] (fun i wr => ∃ k : Nat, k ≤ s.size ∧ i = .int .i64 k ∧ wr.heap[w.heap.size]? = some (.cells #[.int .i64 (rrTo (bs s) k).p, .int .i64 (rrTo (bs s) k).q] 43 (0, 0)) ∧ wr.heap[w.heap.size + 1]? = some (.cells #[.int .i64 (rrTo (bs s) k).a, .int .i64 (rrTo (bs s) k).b] 43 (0, 0)) ∧ Below w.heap.size w wr) (fun i _ => s.size - (intOf i).toNat)
    case atStart =>
      refine ⟨0, by omega, rfl, ?_, ?_, by go_grown⟩
      · rw [heap_alloc_get, if_neg (by simp), heap_alloc_get, if_pos rfl]; rfl
      · rw [heap_alloc_get, if_pos (by simp)]; rfl
    case round =>
      obtain ⟨k, hk, rfl, hP, hR, hb⟩ := hrel
      by_cases hlt : k < s.size
      · have Hg := hd (rr_succ (bs_get hlt))
        obtain ⟨b1, b2, b3, b4, b5, b6, b7, b8⟩ := rr_bd (bs s) k
        generalize rrTo (bs s) k = r at *
        obtain ⟨a, b, p, q⟩ := r
        simp only at b1 b2 b3 b4 b5 b6 b7 b8 hP hR
        have cp0 := cell_of_row wr _ 0 _ _ _ hP
        have cp1 := cell_of_row wr _ 1 _ _ _ hP
        have cr0 := cell_of_row wr _ 0 _ _ _ hR
        have cr1 := cell_of_row wr _ 1 _ _ _ hR
        have fp0 := frozen_of_row wr _ 0 _ _ hP
        have fp1 := frozen_of_row wr _ 1 _ _ hP
        have fr0 := frozen_of_row wr _ 0 _ _ hR
        have fr1 := frozen_of_row wr _ 1 _ _ hR
        simp at cp0 cp1 cr0 cr1
        have HP := hd hP
        have HR := hd hR
        have Hb := hd hb
        clear hP hR hb
        cases hc : ((s[k].toNat : Int) == 46) with
        | true =>
          have Hc := hd hc
          have Hr := hd (show rrTo (bs s) (k + 1) = ⟨0, b + 1, p, max q (b + 1)⟩ by rw [Hg.out, rrStep, if_pos (by simpa using hc)])
          go_wp2
          obtain ⟨W2, hW⟩ : ∃ W2 : World, W2 = (wr.setCell ⟨w.heap.size + 1, 1, none⟩ (.int .i64 (b + 1))).setCell ⟨w.heap.size + 1, 0, none⟩ (.int .i64 0) := ⟨_, rfl⟩
          have h1 : W2.heap[w.heap.size + 1]? = some (.cells #[.int .i64 0, .int .i64 (b + 1)] 43 (0, 0)) := by
            rw [hW]; exact heap_setCell_same _ _ _ _ _ _ (heap_setCell_same _ _ _ _ _ _ HR.out)
          have h2 : W2.heap[w.heap.size]? = some (.cells #[.int .i64 p, .int .i64 q] 43 (0, 0)) := by
            rw [hW, heap_setCell_other _ _ _ _ (by simp), heap_setCell_other _ _ _ _ (by simp)]; exact HP.out
          have h3 : Below w.heap.size w W2 := by rw [hW]; exact (Hb.out.setCell (by simp) _).setCell (by simp) _
          rw [← hW]
          clear hW cp0 cp1 cr0 cr1 fp0 fp1 fr0 fr1 HP HR Hb
          have cp0 := cell_of_row W2 _ 0 _ _ _ h2
          have cp1 := cell_of_row W2 _ 1 _ _ _ h2
          have cr0 := cell_of_row W2 _ 0 _ _ _ h1
          have cr1 := cell_of_row W2 _ 1 _ _ _ h1
          have fp0 := frozen_of_row W2 _ 0 _ _ h2
          have fp1 := frozen_of_row W2 _ 1 _ _ h2
          simp at cp0 cp1 cr0 cr1
          have HP := hd h2
          have HR := hd h1
          have Hb := hd h3
          clear h1 h2 h3
          go_still_tail 9, (by kernel_rfl)
          change wpList _ _ _ _ _ W2.drew
          go_wp2
          all_goals
            go_roundw
            case rel =>
              refine ⟨k + 1, by omega, by go_num, ?_, ?_, (Hb.out.setCell (Nat.le_refl _) _).drew⟩
              · rw [Hr.out]
                show (W2.setCell ⟨w.heap.size, 1, none⟩ _).heap[w.heap.size]? = _
                rw [heap_setCell_same W2 _ 1 _ _ _ HP.out]
                simp
                try omega
              · rw [Hr.out]
                show (W2.setCell ⟨w.heap.size, 1, none⟩ _).heap[w.heap.size + 1]? = _
                rw [heap_setCell_other _ _ _ _ (by simp)]
                exact HR.out
            case measure => simp [intOf]; omega
        | false =>
          have Hc := hd hc
          have Hr := hd (show rrTo (bs s) (k + 1) = ⟨a + 1, 0, max p (a + 1), q⟩ by rw [Hg.out, rrStep, if_neg (by simpa using hc)])
          go_wp2
          obtain ⟨W2, hW⟩ : ∃ W2 : World, W2 = (wr.setCell ⟨w.heap.size + 1, 0, none⟩ (.int .i64 (a + 1))).setCell ⟨w.heap.size + 1, 1, none⟩ (.int .i64 0) := ⟨_, rfl⟩
          have h1 : W2.heap[w.heap.size + 1]? = some (.cells #[.int .i64 (a + 1), .int .i64 0] 43 (0, 0)) := by
            rw [hW]; exact heap_setCell_same _ _ _ _ _ _ (heap_setCell_same _ _ _ _ _ _ HR.out)
          have h2 : W2.heap[w.heap.size]? = some (.cells #[.int .i64 p, .int .i64 q] 43 (0, 0)) := by
            rw [hW, heap_setCell_other _ _ _ _ (by simp), heap_setCell_other _ _ _ _ (by simp)]; exact HP.out
          have h3 : Below w.heap.size w W2 := by rw [hW]; exact (Hb.out.setCell (by simp) _).setCell (by simp) _
          rw [← hW]
          clear hW cp0 cp1 cr0 cr1 fp0 fp1 fr0 fr1 HP HR Hb
          have cp0 := cell_of_row W2 _ 0 _ _ _ h2
          have cp1 := cell_of_row W2 _ 1 _ _ _ h2
          have cr0 := cell_of_row W2 _ 0 _ _ _ h1
          have cr1 := cell_of_row W2 _ 1 _ _ _ h1
          have fp0 := frozen_of_row W2 _ 0 _ _ h2
          have fp1 := frozen_of_row W2 _ 1 _ _ h2
          simp at cp0 cp1 cr0 cr1
          have HP := hd h2
          have HR := hd h1
          have Hb := hd h3
          clear h1 h2 h3
          go_still_tail 9, (by kernel_rfl)
          change wpList _ _ _ _ _ W2.drew
          go_wp2
          all_goals
            go_roundw
            case rel =>
              refine ⟨k + 1, by omega, by go_num, ?_, ?_, (Hb.out.setCell (Nat.le_refl _) _).drew⟩
              · rw [Hr.out]
                show (W2.setCell ⟨w.heap.size, 0, none⟩ _).heap[w.heap.size]? = _
                rw [heap_setCell_same W2 _ 0 _ _ _ HP.out]
                simp
                try omega
              · rw [Hr.out]
                show (W2.setCell ⟨w.heap.size, 0, none⟩ _).heap[w.heap.size + 1]? = _
                rw [heap_setCell_other _ _ _ _ (by simp)]
                exact HR.out
            case measure => simp [intOf]; omega
      · have e : k = s.size := by omega
        subst e
        have Hl := hd (bs_len s)
        have cp0 := cell_of_row wr _ 0 _ _ _ hP
        have cp1 := cell_of_row wr _ 1 _ _ _ hP
        simp at cp0 cp1
        clear hP hR
        have Hb := hd hb
        clear hb
        go_wp2
        go_quiet (fail)
        go_wp2
        go_ret3
        rw [H.out, Hl.out]
        exact ⟨rfl, below_drewN Hb.out _⟩
end Go.Proofs.Ytfeehfmiicleaaa.RunR
