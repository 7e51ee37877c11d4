/- Rosters in plain numbers: calls are as even as can be, nobody is called who is away. No program stands here. -/
import Derived.Test.YtfeehfmiicleaaaOnC
namespace Go.Proofs.Ytfeehfmiicleaaa.Plain
open Go.Proofs.Ytfeehfmiicleaaa
set_option linter.unusedVariables false
set_option linter.unusedSimpArgs false
theorem bestTo_least (ok : Nat → Bool) (C : List Int) (k : Nat) (h : 0 ≤ bestTo ok C k) : ∀ i, i < k → ok i = true → C.getD (bestTo ok C k).toNat 0 ≤ C.getD i 0 := by
  induction k with
  | zero => intro i hi; omega
  | succ k ih =>
    intro i hi hok
    rw [bestTo_succ] at h ⊢
    by_cases hc : (ok k && (decide (bestTo ok C k < 0) || decide (C.getD k 0 < C.getD (bestTo ok C k).toNat 0))) = true
    · rw [if_pos hc]
      simp only [Bool.and_eq_true, Bool.or_eq_true, decide_eq_true_eq] at hc
      rw [Int.toNat_natCast]
      rcases Nat.lt_or_ge i k with h1 | h1
      · rcases hc.2 with h2 | h2
        · have := (bestTo_none ok C k).1 h2 i h1
          rw [hok] at this
          cases this
        · have hb := bestTo_bd ok C k
          by_cases h3 : 0 ≤ bestTo ok C k
          · have := ih h3 i h1 hok
            omega
          · have := (bestTo_none ok C k).1 (by omega) i h1
            rw [hok] at this
            cases this
      · obtain rfl : i = k := by omega
        exact Int.le_refl _
    · rw [if_neg hc] at h ⊢
      rcases Nat.lt_or_ge i k with h1 | h1
      · exact ih h i h1 hok
      · obtain rfl : i = k := by omega
        simp only [hok, Bool.true_and, Bool.or_eq_true, decide_eq_true_eq, not_or] at hc
        omega
/-- who is picked is there -/
theorem pick_there {set : Nat} {last : Int} {C : List Int} {m : Nat} (h : 0 ≤ pick set last C m) : set.testBit (pick set last C m).toNat = false := by
  unfold pick at h ⊢
  split
  · rename_i h1
    exact h1.2.2
  · rename_i h1
    rw [if_neg h1] at h
    have := bestTo_ok _ C m h
    simp only [oth, Bool.and_eq_true, Bool.not_eq_true'] at this
    exact this.1
/-- nobody is picked only if nobody is there -/
theorem pick_nobody {set : Nat} {last : Int} {C : List Int} {m : Nat} (h : pick set last C m < 0) (hl : last < m) : ∀ i, i < m → set.testBit i = true := by
  intro i hi
  unfold pick at h
  split at h
  · omega
  · rename_i h1
    have h2 := (bestTo_none _ C m).1 h i hi
    simp only [oth, Bool.and_eq_false_iff, Bool.not_eq_false', decide_eq_true_eq] at h2
    rcases h2 with h2 | h2
    · exact h2
    · cases hb : set.testBit i with
      | true => rfl
      | false =>
        exfalso
        apply h1
        refine ⟨h, by omega, ?_⟩
        rw [← h2, Int.toNat_natCast]
        exact hb
theorem all_bits {m x : Nat} (h : ∀ i, i < m → x.testBit i = true) (hx : x < 2 ^ m) : x = 2 ^ m - 1 := by
  apply Nat.eq_of_testBit_eq
  intro i
  rw [Nat.testBit_two_pow_sub_one]
  rcases Nat.lt_or_ge i m with h1 | h1
  · rw [h i h1]; simp [h1]
  · rw [Nat.testBit_lt_two_pow (Nat.lt_of_lt_of_le hx (Nat.pow_le_pow_right (by omega) h1))]
    simp; omega
/-- the calls are so, whoever is away: there is a list unless all are away on some day, and nobody is called who is away -/
theorem calls_away {m : Nat} {sets : List Int} (hs : ∀ k, 0 ≤ sets.getD k 0 ∧ sets.getD k 0 < 2 ^ m) (d : Nat) :
    (callsTo m sets d = none → ∃ k, k < d ∧ sets.getD k 0 = 2 ^ m - 1) ∧ ∀ s, callsTo m sets d = some s → (1 ≤ m → ∀ k, k < d → sets.getD k 0 ≠ 2 ^ m - 1) ∧ ∀ k, k < d → ∃ p, s.out[k]? = some p ∧ 0 ≤ p ∧ p < m ∧ (sets.getD k 0).toNat.testBit p.toNat = false := by
  induction d with
  | zero =>
    refine ⟨fun h => by simp [callsTo] at h, fun s h => ⟨fun _ k hk => absurd hk (by omega), fun k hk => absurd hk (by omega)⟩⟩
  | succ d ih =>
    obtain ⟨i1, i2⟩ := ih
    have hsd := hs d
    have hpow : ((2 ^ m : Nat) : Int) = (2 : Int) ^ m := by push_cast; rfl
    have hlt : (sets.getD d 0).toNat < 2 ^ m := by omega
    simp only [callsTo]
    cases e : callsTo m sets d with
    | none =>
      refine ⟨fun _ => ?_, fun s h => by cases h⟩
      obtain ⟨k, hk, h⟩ := i1 e
      exact ⟨k, by omega, h⟩
    | some s0 =>
      have ok := callsTo_ok sets d e
      obtain ⟨j1, j2⟩ := i2 s0 e
      simp only
      by_cases hp : pick (sets.getD d 0).toNat s0.last s0.C m < 0
      · rw [if_pos hp]
        refine ⟨fun _ => ⟨d, by omega, ?_⟩, fun s h => by cases h⟩
        have := all_bits (pick_nobody hp ok.lst.2) hlt
        have := Nat.two_pow_pos m
        omega
      · rw [if_neg hp]
        refine ⟨fun h => (by cases h), fun s h => ?_⟩
        cases h
        have pt := pick_there (set := (sets.getD d 0).toNat) (last := s0.last) (C := s0.C) (m := m) (by omega)
        have pb := pick_bd (set := (sets.getD d 0).toNat) (C := s0.C) ok.lst.2
        refine ⟨fun hm k hk => ?_, fun k hk => ?_⟩
        · rcases Nat.lt_or_ge k d with h1 | h1
          · exact j1 hm k h1
          · obtain rfl : k = d := by omega
            intro hfull
            have e2 : (sets.getD k 0).toNat = 2 ^ m - 1 := by have := Nat.two_pow_pos m; omega
            rw [e2] at pt pb hp
            rw [Nat.testBit_two_pow_sub_one] at pt
            simp only [decide_eq_false_iff_not] at pt
            omega
        · rcases Nat.lt_or_ge k d with h1 | h1
          · obtain ⟨p, q1, q2⟩ := j2 k h1
            exact ⟨p, by rw [List.getElem?_append_left (by rw [ok.outl]; exact h1)]; exact q1, q2⟩
          · obtain rfl : k = d := by omega
            refine ⟨_, by rw [List.getElem?_append_right (by rw [ok.outl]; exact Nat.le_refl _), ok.outl, Nat.sub_self]; rfl, by omega, pb.2, pt⟩
/-- even: all counts are c or one more, and the last one called has one more, or all are alike -/
def Even (m : Nat) (s : CallSt) : Prop := ∃ c : Int, (∀ i, i < m → c ≤ s.C.getD i 0 ∧ s.C.getD i 0 ≤ c + 1) ∧ (0 ≤ s.last → s.C.getD s.last.toNat 0 = c + 1 ∨ ∀ i, i < m → s.C.getD i 0 = c)
theorem calls_even {m : Nat} (hm : 1 ≤ m) {sets : List Int} (h0 : ∀ k, sets.getD k 0 = 0) (d : Nat) :
    ∃ s, callsTo m sets d = some s ∧ Even m s ∧ (2 ≤ m → ∀ k, 1 ≤ k → k < d → s.out[k]? ≠ s.out[k - 1]?) := by
  induction d with
  | zero =>
    refine ⟨_, rfl, ⟨0, fun i hi => ?_, fun h => ?_⟩, fun _ k h1 h2 => by omega⟩
    · simp only [List.getD_eq_getElem?_getD, List.getElem?_replicate, if_pos hi, Option.getD_some]
      omega
    · simp at h
  | succ d ih =>
    obtain ⟨s, e, hE, hD⟩ := ih
    have ok := callsTo_ok sets d e
    simp only [callsTo, e, h0 d]
    have hz : (0 : Int).toNat = 0 := rfl
    rw [hz]
    have hp0 : ¬ pick 0 s.last s.C m < 0 := by
      intro h
      have := pick_nobody h ok.lst.2 0 (by omega)
      simp at this
    have pb := pick_bd (set := 0) (C := s.C) ok.lst.2
    rw [if_neg hp0]
    -- what is known of the one picked
    have key : (2 ≤ m → pick 0 s.last s.C m ≠ s.last) ∧ ∀ i, i < m → (i : Int) ≠ s.last → s.C.getD (pick 0 s.last s.C m).toNat 0 ≤ s.C.getD i 0 ∨ m = 1 := by
      by_cases hb : bestTo (oth 0 s.last) s.C m < 0
      · have hn := (bestTo_none _ s.C m).1 hb
        have hall : ∀ i, i < m → (i : Int) = s.last := fun i hi => by
          have := hn i hi
          simpa [oth] using this
        have h1 : m = 1 := by
          rcases Nat.lt_or_ge 1 m with h | h
          · have := hall 0 (by omega)
            have := hall 1 h
            omega
          · omega
        exact ⟨fun h => by omega, fun i hi hne => .inr h1⟩
      · have hp : pick 0 s.last s.C m = bestTo (oth 0 s.last) s.C m := by
          unfold pick
          rw [if_neg (fun h => hb h.1)]
        rw [hp]
        have hb0 : 0 ≤ bestTo (oth 0 s.last) s.C m := by omega
        refine ⟨fun _ hl => ?_, fun i hi hne => .inl (bestTo_least _ _ _ hb0 i hi (by simp [oth, hne]))⟩
        have h2 := bestTo_ok (oth 0 s.last) s.C m hb0
        have h3 := bestTo_bd (oth 0 s.last) s.C m
        simp only [oth, Bool.and_eq_true, Bool.not_eq_true', decide_eq_false_iff_not] at h2
        omega
    generalize pick 0 s.last s.C m = p at *
    refine ⟨_, rfl, ?_, fun hm2 k h1 h2 => ?_⟩
    · obtain ⟨c, hr, hl⟩ := hE
      have hpm : p.toNat < s.C.length := by rw [ok.len]; omega
      have hget : ∀ i, (s.C.set p.toNat (s.C.getD p.toNat 0 + 1)).getD i 0 = if i = p.toNat then s.C.getD p.toNat 0 + 1 else s.C.getD i 0 := by
        intro i
        rw [List.getD_eq_getElem?_getD, List.getElem?_set]
        by_cases hi : p.toNat = i
        · subst hi; simp [hpm]
        · rw [if_neg hi, if_neg (fun h => hi h.symm), List.getD_eq_getElem?_getD]
      show ∃ c : Int, (∀ i, i < m → c ≤ (s.C.set p.toNat (s.C.getD p.toNat 0 + 1)).getD i 0 ∧ (s.C.set p.toNat (s.C.getD p.toNat 0 + 1)).getD i 0 ≤ c + 1) ∧ (0 ≤ p → (s.C.set p.toNat (s.C.getD p.toNat 0 + 1)).getD p.toNat 0 = c + 1 ∨ ∀ i, i < m → (s.C.set p.toNat (s.C.getD p.toNat 0 + 1)).getD i 0 = c)
      have hrp := hr p.toNat (by omega)
      -- the least count is c' and the one picked has it
      by_cases h1 : m = 1
      · refine ⟨s.C.getD p.toNat 0, fun i hi => ?_, fun _ => .inl ?_⟩
        · rw [hget, if_pos (by omega)]; omega
        · rw [hget, if_pos rfl]
      · by_cases hex : ∃ i, i < m ∧ s.C.getD i 0 = c
        · obtain ⟨i, hi, hc⟩ := hex
          have hpc : s.C.getD p.toNat 0 = c := by
            by_cases hil : (i : Int) = s.last
            · rcases hl (by omega) with h | h
              · rw [← hil, Int.toNat_natCast, hc] at h; omega
              · exact h _ (by omega)
            · rcases key.2 i hi hil with h | h
              · omega
              · exact absurd h h1
          refine ⟨c, fun j hj => ?_, fun _ => .inl ?_⟩
          · rw [hget]
            have := hr j hj
            split <;> omega
          · rw [hget, if_pos rfl, hpc]
        · have hall : ∀ i, i < m → s.C.getD i 0 = c + 1 := fun i hi => by
            have := hr i hi
            rcases Int.lt_or_eq_of_le this.1 with h | h
            · omega
            · exact absurd ⟨i, hi, h.symm⟩ hex
          have hpc := hall p.toNat (by omega)
          refine ⟨c + 1, fun j hj => ?_, fun _ => .inl ?_⟩
          · rw [hget]
            have := hall j hj
            split <;> omega
          · rw [hget, if_pos rfl, hpc]
    · rcases Nat.lt_or_ge k d with h3 | h3
      · rw [List.getElem?_append_left (by rw [ok.outl]; exact h3), List.getElem?_append_left (by rw [ok.outl]; omega)]
        exact hD hm2 k h1 h3
      · obtain rfl : k = d := by omega
        rw [List.getElem?_append_right (by rw [ok.outl]; exact Nat.le_refl _), ok.outl, Nat.sub_self, List.getElem?_append_left (by rw [ok.outl]; omega), ok.tail (by omega)]
        intro h
        simp at h
        exact key.1 hm2 h
end Go.Proofs.Ytfeehfmiicleaaa.Plain
