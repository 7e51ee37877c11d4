/- Chapter 6: are trips valid? -/
import Derived.Test.YtdkmloomlnljlaaNum
import Derived.Test.YtdkmloomlnljlaaWords
namespace Go.Proofs.Ytdkmloomlnljlaa
open Go.RowKit Plain
set_option linter.unusedVariables false
set_option linter.unusedSimpArgs false
attribute [local go_sem ↓] Go.wp_at_zero Go.wp_at_succ

/-- a trip is valid -/
def tripB (q : Q4) : Bool := inR q.a 0 10000 && (inR q.b (q.a + 1) 10000 && (inR q.c 0 7 && inR q.d 0 7))
theorem tripB_iff {q : Q4} : tripB q = true ↔ (0 ≤ q.a ∧ q.a ≤ 10000) ∧ (q.a + 1 ≤ q.b ∧ q.b ≤ 10000) ∧ (0 ≤ q.c ∧ q.c ≤ 7) ∧ (0 ≤ q.d ∧ q.d ≤ 7) := by simp [tripB, inR]
/-- trips are valid -/
def tripsB (l : List Q4) : Bool := l.all tripB && decide (1 ≤ l.length ∧ l.length ≤ 24)
theorem tripsB_end {l : List Q4} {k n : Nat} (h : (l.take k).all tripB = true) (hn : n = l.length) (hk : n ≤ k) : tripsB l = decide (1 ≤ n ∧ n ≤ 24) := by
  rw [tripsB, all_whole h (by omega), ← hn]; simp
theorem tripsB_no {l : List Q4} {k : Nat} {q : Q4} (h : l[k]? = some q) (hp : tripB q = false) : tripsB l = false := by
  rw [tripsB, all_false_of h hp]; rfl

theorem trip_impl {a b c d : Int} (h1 : inR a 0 10000 = true) (h2 : inR b (wrap64 (a + 1)) 10000 = true) (h3 : inR c 0 7 = true) (h4 : (!inR d 0 7) = false) : tripB ⟨a, b, c, d⟩ = true := by
  simp only [inR_iff, Bool.not_eq_false', wrap64] at h1 h2 h3 h4
  rw [tripB_iff]
  simp only
  omega
theorem trip_spec {a b c d : Int} (h1 : inR a 0 10000 = true) (h2 : inR b 0 10000 = true) (h3 : inR c 0 7 = true) (h4 : a < b ∧ (!inR d 0 7) = false) : tripB ⟨a, b, c, d⟩ = true := by
  simp only [inR_iff, Bool.not_eq_false'] at h1 h2 h3 h4
  rw [tripB_iff]
  simp only
  omega

set_option maxHeartbeats 1000000 in
theorem AreTrips_any (v : Value) (l : List Q4) (w : World) (hs : Sl w 4 v l.length (q4s l)) :
    Calls Try.prog 16 #[v] w fun r w' => r = .returned (.bool (tripsB l)) ∧ Below w.heap.size w w' := by
  obtain ⟨A, cap, rfl, hcap, hr⟩ := hs
  have hm := hr.2.1
  unfold maxLen at hm
  generalize hn : l.length = n at *
  have Hn := hd hn.symm
  clear hn
  go_enter Try.func16, Try.ntmps16
  go_wp2
  go_loopw [7] (fun i wr => ∃ k : Nat, k ≤ n ∧ i = .int .i64 k ∧ Hid ((l.take k).all tripB = true) ∧ Below w.heap.size w wr) (fun i _ => n - (intOf i).toNat)
  case atStart => exact ⟨0, by omega, rfl, by simp [Hid], Below.refl _ _⟩
  case round =>
    obtain ⟨k, hk, rfl, ha, hb⟩ := hrel
    by_cases hlt : k < n
    · obtain ⟨b, off, qa, qb, qc, qd, rfl, hq, c0, c1, c2, c3⟩ := (hr.below hb).q4 hlt
      have Hb := hd hb
      clear hr hb
      cases ht : tripB ⟨qa, qb, qc, qd⟩ with
      | false =>
        have Ht := hd ht
        clear ht
        go_wp2_with (go_at_call 25; refine (within_any _ _ _ _).mono ?_; rintro e w' ⟨rfl, rfl⟩)
        all_goals first
          | (go_ret; exact ⟨ret_bool (tripsB_no hq.out Ht.out).symm, Hb.out.alloc Hb.out.size _⟩)
          | exact absurd (trip_impl (by assumption) (by assumption) (by assumption) (by assumption) : tripB ⟨qa, qb, qc, qd⟩ = true) (by rw [Ht.out]; simp)
      | true =>
        obtain ⟨h1, h2, h3, h4⟩ := tripB_iff.1 ht
        simp only at h1 h2 h3 h4
        have Ht := hd ht
        have g1 : inR qa 0 10000 = true := inR_iff.2 h1
        have g2 : inR qb (qa + 1) 10000 = true := inR_iff.2 h2
        have g3 : inR qc 0 7 = true := inR_iff.2 h3
        have g4 : inR qd 0 7 = true := inR_iff.2 h4
        obtain ⟨b1, b2⟩ := h1
        clear ht h2 h3 h4
        go_wp2_with (go_at_call 25; refine (within_any _ _ _ _).mono ?_; rintro e w' ⟨rfl, rfl⟩)
        go_roundw
        case rel => exact ⟨k + 1, by omega, by go_num, all_take_of ha.out hq.out Ht.out, Hb.out.alloc Hb.out.size _⟩
        case measure => simp [intOf]; omega
    · go_wp2
      all_goals
        go_ret
        refine ⟨ret_bool ?_, hb⟩
        rw [tripsB_end ha.out Hn.out (by omega), Bool.eq_iff_iff]
        simp
        try omega

set_option maxHeartbeats 1000000 in
theorem l06Trips_any (v : Value) (l : List Q4) (w : World) (hs : Sl w 4 v l.length (q4s l)) :
    Calls Try.prog 11 #[v] w fun r w' => r = .returned (.bool (tripsB l)) ∧ Below w.heap.size w w' := by
  obtain ⟨A, cap, rfl, hcap, hr⟩ := hs
  have hm := hr.2.1
  unfold maxLen at hm
  generalize hn : l.length = n at *
  have Hn := hd hn.symm
  clear hn
  go_enter Try.func11, Try.ntmps11
  go_wp2
  go_loopw [3] (fun i wr => ∃ k : Nat, k ≤ n ∧ i = .int .i64 k ∧ Hid ((l.take k).all tripB = true) ∧ Below w.heap.size w wr) (fun i _ => n - (intOf i).toNat)
  case atStart => exact ⟨0, by omega, rfl, by simp [Hid], Below.refl _ _⟩
  case round =>
    obtain ⟨k, hk, rfl, ha, hb⟩ := hrel
    by_cases hlt : k < n
    · obtain ⟨b, off, qa, qb, qc, qd, rfl, hq, c0, c1, c2, c3⟩ := (hr.below hb).q4 hlt
      have Hb := hd hb
      clear hr hb
      cases ht : tripB ⟨qa, qb, qc, qd⟩ with
      | false =>
        have Ht := hd ht
        clear ht
        go_wp2_with (go_at_call 13; refine (l00In_any _ _ _ _).mono ?_; rintro e w' ⟨rfl, rfl⟩)
        all_goals first
          | (go_ret; exact ⟨ret_bool (tripsB_no hq.out Ht.out).symm, Hb.out.alloc Hb.out.size _⟩)
          | exact absurd (trip_spec (by assumption) (by assumption) (by assumption) (by assumption) : tripB ⟨qa, qb, qc, qd⟩ = true) (by rw [Ht.out]; simp)
      | true =>
        obtain ⟨h1, h2, h3, h4⟩ := tripB_iff.1 ht
        simp only at h1 h2 h3 h4
        have Ht := hd ht
        have g1 : inR qa 0 10000 = true := inR_iff.2 h1
        have g2 : inR qb 0 10000 = true := inR_iff.2 (by omega)
        have g0 : ¬ qb ≤ qa := by omega
        have g3 : inR qc 0 7 = true := inR_iff.2 h3
        have g4 : inR qd 0 7 = true := inR_iff.2 h4
        obtain ⟨b1, b2⟩ := h1
        clear ht h2 h3 h4
        go_wp2_with (go_at_call 13; refine (l00In_any _ _ _ _).mono ?_; rintro e w' ⟨rfl, rfl⟩)
        go_roundw
        case rel => exact ⟨k + 1, by omega, by go_num, all_take_of ha.out hq.out Ht.out, Hb.out.alloc Hb.out.size _⟩
        case measure => simp [intOf]; omega
    · go_wp2
      all_goals
        go_ret
        refine ⟨ret_bool ?_, hb⟩
        rw [tripsB_end ha.out Hn.out (by omega), Bool.eq_iff_iff]
        simp
        try omega
end Go.Proofs.Ytdkmloomlnljlaa
