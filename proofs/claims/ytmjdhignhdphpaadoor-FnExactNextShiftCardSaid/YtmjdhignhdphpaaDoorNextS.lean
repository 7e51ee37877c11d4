/- NextShift, the reference's side. -/
import Derived.Test.YtmjdhignhdphpaaDoorProg
import Derived.Test.YtmjdhignhdphpaaDoorListA
import Derived.Test.YtmjdhignhdphpaaDoorStatesS
namespace Go.Proofs.YtmjdhignhdphpaaDoor
open Go.RowKit Plain
set_option linter.unusedVariables false
set_option linter.unusedSimpArgs false
attribute [local go_sem ↓] Go.wp_at_zero Go.wp_at_succ

/-- what both return -/
def okN (r : SR) (t : ByteArray) : Bool := validS r && isS (limS r) r.slots t
def nextM (r : SR) (t : ByteArray) : ByteArray × Bool := if okN r t then (match nfT (limS r) t t.size with | none => (⟨#[]⟩, false) | some x => (x, true)) else (⟨#[]⟩, false)
theorem nextM_no {r : SR} {t : ByteArray} (h : okN r t = false) : nextM r t = (⟨#[]⟩, false) := by rw [nextM, h]; rfl
theorem nextM_none {r : SR} {t : ByteArray} (h : okN r t = true) (h2 : nfT (limS r) t t.size = none) : nextM r t = (⟨#[]⟩, false) := by rw [nextM, h, h2]; rfl
theorem nextM_some {r : SR} {t x : ByteArray} (h : okN r t = true) (h2 : nfT (limS r) t t.size = some x) : nextM r t = (x, true) := by rw [nextM, h, h2]; rfl
theorem pre_zero (t : ByteArray) : preB t 0 = ⟨#[]⟩ := by
  apply ByteArray.ext
  apply Array.ext'
  rw [pre_data (Nat.zero_le _)]; rfl
theorem isS_parts {L : ShiftLim} {S : Int} {t : ByteArray} (h : isS L S t = true) : (t.size : Int) = S ∧ letB t = true ∧ ∃ z, runS L t t.size = some z := by
  simp only [isS, Bool.and_eq_true, decide_eq_true_eq] at h
  refine ⟨h.1, h.2.1, ?_⟩
  cases hr : runS L t t.size with
  | none => rw [hr] at h; simp [endB] at h
  | some z => exact ⟨z, rfl⟩
theorem fill_one_cases {l : List ByteArray} : (l.head? = none ∧ fillS 1 [] l = []) ∨ ∃ x, l.head? = some x ∧ fillS 1 [] l = [x] := by
  cases l with
  | nil => exact .inl ⟨rfl, rfl⟩
  | cons x l => exact .inr ⟨x, rfl, by simp [fillS]⟩
/-- a string and a bool -/
def Str2 (m : ByteArray × Bool) (w : World) (e : Ending) (w' : World) : Prop := e = .returned (.tuple #[.string m.1, .bool m.2]) ∧ Below w.heap.size w w'
set_option maxHeartbeats 4000000 in
set_option maxRecDepth 100000 in
theorem specNext_any (r : SR) (t : ByteArray) (ht : t.size ≤ maxLen) (w : World) :
    Calls Tryd.prog 8 #[r.val, .string t] w (Str2 (nextM r t) w) := by
  have hI := hd (fun W h => l06Is_any r w.heap.size 0 W h)
  have S0 := hd (srat_box w r 26)
  cases hv : validS r with
  | false =>
    have HM := hd (nextM_no (r := r) (t := t) (by rw [okN, hv]; rfl))
    rw [HM.out]
    rw [hv] at hI
    clear hv
    obtain ⟨a, b, c, d, e⟩ := r
    simp only [SR.val] at *
    go_enter Tryd.func8, Tryd.ntmps8
    go_wp2_with (go_at_call 10; refine (hI.out _ S0.out).mono ?_; rintro e w' ⟨rfl, m, rfl⟩)
    go_ret2
    exact ⟨rfl, below_drewN ((Below.refl w.heap.size w).alloc (Nat.le_refl _) _) m⟩
  | true =>
    have hS := hd (fun W h => l06Shift_any w.heap.size 0 r hv t ht W h)
    rw [hv] at hI
    cases hs : isS (limS r) r.slots t with
    | false =>
      have HM := hd (nextM_no (r := r) (t := t) (by rw [okN, hs, Bool.and_false]))
      rw [HM.out]
      rw [hs] at hS
      clear hv hs
      obtain ⟨a, b, c, d, e⟩ := r
      simp only [SR.val] at *
      go_enter Tryd.func8, Tryd.ntmps8
      go_wp2_with (first
        | (go_at_call 10; refine (hI.out _ S0.out).mono ?_; rintro e w' ⟨rfl, m, rfl⟩)
        | (go_at_call 11; refine (hS.out _ (srat_drewN S0.out m)).mono ?_; rintro e w2 ⟨rfl, hb2⟩))
      go_ret2
      exact ⟨rfl, below_tr hb2 (show Below w.heap.size w _ from below_drewN ((Below.refl w.heap.size w).alloc (Nat.le_refl _) _) m)⟩
    | true =>
      obtain ⟨q1, q2, q3⟩ := isS_parts hs
      have hok : okN r t = true := by rw [okN, hv, hs]; rfl
      have NN := hd (fun h => nextM_none (r := r) (t := t) hok h)
      have NS := hd (fun x h => nextM_some (r := r) (t := t) (x := x) hok h)
      obtain ⟨b1, b2, b3, b4, b5⟩ := valid_bd hv
      have htn : r.slots.toNat = t.size := by omega
      have NX := next_same (L := limS r) (t := t) (fun k hk => let_good q2 hk) t.size 0 ShiftPt.start (by omega) rfl q3
      rw [pre_zero] at NX
      have HNX := hd NX
      have A3 := hd (fun w' v hr ho hB => l06List_after t w.heap.size 0 r q1 (w.heap.size + 1) 1 (by omega) b1.2 b2 b3 b4 b5 (by omega) r.slots.toNat ⟨#[]⟩ 0 0 (-1) v [] w' hr (okR_start b3.1 (show 0 ≤ r.row by omega)) (by omega) (by show (0 : Int) + _ = _; omega) b1.1 (by simp) hB ho)
      have E := hd (show (listS (limS r) r.slots.toNat ((⟨0, 0, -1⟩ : ShiftPt).cut (limS r)) ⟨#[]⟩) = listS (limS r) t.size ShiftPt.start ⟨#[]⟩ from by rw [htn]; rfl)
      rw [E.out] at A3
      rw [hs] at hS
      generalize (listS (limS r) t.size ShiftPt.start ⟨#[]⟩).filter (gtB t) = lf at *
      clear hv hs q1 q2 q3 hok b1 b2 b3 b4 b5 htn NX E
      obtain ⟨a, b, c, d, e⟩ := r
      simp only [SR.val] at *
      obtain ⟨fl, hfl⟩ : ∃ fl, fl = fillS 1 [] lf := ⟨_, rfl⟩
      rw [← hfl] at A3
      have HFL := hd hfl
      clear hfl
      rcases fill_one_cases (l := lf) with ⟨h1, h2⟩ | ⟨x, h1, h2⟩
      · have hfl0 : fl = [] := by rw [HFL.out]; exact h2
        subst hfl0
        have HE := hd (NN.out (HNX.out.symm.trans h1))
        clear h1 h2
        go_enter Tryd.func8, Tryd.ntmps8
        go_wp2_with (first
          | (go_at_call 10; refine (hI.out _ S0.out).mono ?_; rintro e w' ⟨rfl, m, rfl⟩)
          | (go_at_call 11; refine (hS.out _ (srat_drewN S0.out m)).mono ?_; rintro e w1 ⟨rfl, hb1⟩; have HB1 := hd (below_tr hb1 (show Below w.heap.size w _ from below_drewN ((Below.refl w.heap.size w).alloc (Nat.le_refl _) _) m)); have S1 := hd ((srat_drewN S0.out m).below hb1); clear hb1)
          | (go_at_call 15; refine (l06Start_any _).mono ?_; rintro e w2 ⟨rfl, hb2⟩; have HB2 := hd (below_tr hb2 HB1.out); have S2 := hd (S1.out.below hb2); have Z2 := hd (show w.heap.size + 1 ≤ w2.heap.size from block_lt_of_cell S2.out.c0); clear hb2)
          | (go_at_call 14; refine (A3.out _ _ (S2.out.below ((Below.refl _ _).alloc (Nat.le_refl _) _)) ?_ ?_).mono ?_; exact own_mono (World.ownsRow_made (size := 1) w2 #[] 0 (Nat.le_refl _) (by unfold maxLen; omega) rfl (e := 9)) Z2.out; exact Nat.le_trans Z2.out (by simp only [World.size_alloc]; omega); rintro e w3 ⟨u, rfl, ho3, hg3, hl3⟩; obtain ⟨A, cap, rfl, _, _, _⟩ := own_rd ho3 (by simp [maxLen])))
        go_ret2
        rw [HE.out]
        refine ⟨rfl, below_of_grew (below_tr ((Below.refl _ _).alloc (Nat.le_refl _) _) HB2.out) hg3 (fun k hk => by cases hk) (fun k hk => ?_)⟩
        have e : w2.heap.size = k := by simpa [Value.ownBlock] using hk
        have := Z2.out
        omega
      · have hfl0 : fl = [x] := by rw [HFL.out]; exact h2
        subst hfl0
        have HE := hd (NS.out x (HNX.out.symm.trans h1))
        clear h1 h2
        go_enter Tryd.func8, Tryd.ntmps8
        go_wp2_with (first
          | (go_at_call 10; refine (hI.out _ S0.out).mono ?_; rintro e w' ⟨rfl, m, rfl⟩)
          | (go_at_call 11; refine (hS.out _ (srat_drewN S0.out m)).mono ?_; rintro e w1 ⟨rfl, hb1⟩; have HB1 := hd (below_tr hb1 (show Below w.heap.size w _ from below_drewN ((Below.refl w.heap.size w).alloc (Nat.le_refl _) _) m)); have S1 := hd ((srat_drewN S0.out m).below hb1); clear hb1)
          | (go_at_call 15; refine (l06Start_any _).mono ?_; rintro e w2 ⟨rfl, hb2⟩; have HB2 := hd (below_tr hb2 HB1.out); have S2 := hd (S1.out.below hb2); have Z2 := hd (show w.heap.size + 1 ≤ w2.heap.size from block_lt_of_cell S2.out.c0); clear hb2)
          | (go_at_call 14; refine (A3.out _ _ (S2.out.below ((Below.refl _ _).alloc (Nat.le_refl _) _)) ?_ ?_).mono ?_; exact own_mono (World.ownsRow_made (size := 1) w2 #[] 0 (Nat.le_refl _) (by unfold maxLen; omega) rfl (e := 9)) Z2.out; exact Nat.le_trans Z2.out (by simp only [World.size_alloc]; omega); rintro e w3 ⟨u, rfl, ho3, hg3, hl3⟩; obtain ⟨A, cap, rfl, hcap, hrd, _⟩ := own_rd ho3 (by simp [maxLen]); obtain ⟨bb, off, rfl, hcl⟩ := hrd.2.2 (by simp); have hx0 : w3.cell? ⟨bb, off, none⟩ = some (.string x) := hcl 0 (.string x) rfl))
        go_ret2
        rw [HE.out]
        refine ⟨rfl, below_of_grew (below_tr ((Below.refl _ _).alloc (Nat.le_refl _) _) HB2.out) hg3 (fun k hk => by cases hk) (fun k hk => ?_)⟩
        have e : w2.heap.size = k := by simpa [Value.ownBlock] using hk
        have := Z2.out
        omega
end Go.Proofs.YtmjdhignhdphpaaDoor
