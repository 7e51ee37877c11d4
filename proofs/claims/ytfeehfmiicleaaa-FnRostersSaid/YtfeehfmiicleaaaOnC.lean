/- OnCalls in plain numbers. No program stands here. -/
import Derived.Test.YtfeehfmiicleaaaPlain
import Derived.Test.YtfeehfmiicleaaaBits
namespace Go.Proofs.Ytfeehfmiicleaaa.Plain
open Go.Proofs.Ytfeehfmiicleaaa

/-- among the first k that may, the first one with the least number; -1: none -/
def bestTo (ok : Nat → Bool) (C : List Int) : Nat → Int
  | 0 => -1
  | k + 1 => if ok k && (decide (bestTo ok C k < 0) || decide (C.getD k 0 < C.getD (bestTo ok C k).toNat 0)) then k else bestTo ok C k
theorem bestTo_succ (ok : Nat → Bool) (C : List Int) (k : Nat) : bestTo ok C (k + 1) = if ok k && (decide (bestTo ok C k < 0) || decide (C.getD k 0 < C.getD (bestTo ok C k).toNat 0)) then (k : Int) else bestTo ok C k := rfl
theorem bestTo_bd (ok : Nat → Bool) (C : List Int) (k : Nat) : -1 ≤ bestTo ok C k ∧ bestTo ok C k < k := by
  induction k with
  | zero => simp [bestTo]
  | succ k ih => simp only [bestTo]; split <;> omega
theorem bestTo_ok (ok : Nat → Bool) (C : List Int) (k : Nat) (h : 0 ≤ bestTo ok C k) : ok (bestTo ok C k).toNat = true := by
  induction k with
  | zero => simp [bestTo] at h
  | succ k ih =>
    simp only [bestTo] at h ⊢
    split
    · rename_i hc; simp only [Bool.and_eq_true] at hc; simpa using hc.1
    · rename_i hc; rw [if_neg hc] at h; exact ih h
theorem bestTo_none (ok : Nat → Bool) (C : List Int) (k : Nat) : bestTo ok C k < 0 ↔ ∀ i, i < k → ok i = false := by
  induction k with
  | zero => simp [bestTo]
  | succ k ih =>
    simp only [bestTo]
    constructor
    · intro h
      split at h
      · omega
      · rename_i hc
        intro i hi
        have hb := ih.1 h
        by_cases e : i = k
        · subst e; simp only [h, decide_true, Bool.true_or, Bool.and_true] at hc; simpa using hc
        · exact hb i (by omega)
    · intro h
      have hb := ih.2 (fun i hi => h i (by omega))
      rw [h k (by omega)]
      simpa using hb
theorem bestTo_congr {ok ok' : Nat → Bool} (C : List Int) (k : Nat) (h : ∀ i, i < k → ok i = ok' i) : bestTo ok C k = bestTo ok' C k := by
  induction k with
  | zero => rfl
  | succ k ih =>
    have := ih (fun i hi => h i (by omega))
    simp only [bestTo, this, h k (by omega)]
/-- who is there, but for the last one -/
def oth (set : Nat) (last : Int) (i : Nat) : Bool := !set.testBit i && !decide ((i : Int) = last)
/-- who is called; -1: nobody -/
def pick (set : Nat) (last : Int) (C : List Int) (m : Nat) : Int :=
  if bestTo (oth set last) C m < 0 ∧ 0 ≤ last ∧ set.testBit last.toNat = false then last else bestTo (oth set last) C m
theorem pick_bd {set : Nat} {last : Int} {C : List Int} {m : Nat} (h : last < m) : -1 ≤ pick set last C m ∧ pick set last C m < m := by
  have := bestTo_bd (oth set last) C m
  unfold pick
  split <;> omega

/-- those who are there -/
def there (m set : Nat) : Nat := mns (2 ^ m - 1) set
theorem there_bit {m set : Nat} (i : Nat) : (there m set).testBit i = (decide (i < m) && !set.testBit i) := by rw [there, mns_bit, full_bit]
theorem there_lt (m set : Nat) : there m set < 2 ^ m := mns_lt (by have := Nat.two_pow_pos m; omega)
theorem pick_none {m set : Nat} {last : Int} {C : List Int} (h : there m set = 0) (hl : last < m) : pick set last C m = -1 := by
  have hb : ∀ i, i < m → set.testBit i = true := by
    intro i hi
    have := eq_zero_iff.1 h i
    rw [there_bit] at this
    simpa [hi] using this
  have h1 := bestTo_bd (oth set last) C m
  have h2 := (bestTo_none (oth set last) C m).2 (fun i hi => by simp [oth, hb i hi])
  unfold pick
  rw [if_neg]
  · omega
  · rintro ⟨_, h3, h4⟩
    have := hb last.toNat (by omega)
    rw [h4] at this; cases this
/-- nobody is the last one, or he alone is there -/
theorem pick_whole {m set : Nat} {last : Int} {C : List Int} (h0 : there m set ≠ 0) (hl : last < m) (h : last < 0 ∨ (0 ≤ last ∧ there m set = 2 ^ last.toNat)) :
    bestTo (fun i => (there m set).testBit i) C m = pick set last C m ∧ 0 ≤ pick set last C m := by
  have hne : ¬ bestTo (fun i => (there m set).testBit i) C m < 0 := by
    rw [bestTo_none]
    intro hall
    apply h0
    apply eq_zero_iff.2
    intro i
    by_cases hi : i < m
    · exact hall i hi
    · rw [there_bit]; simp [hi]
  rcases h with h | ⟨h1, h2⟩
  · have e : bestTo (fun i => (there m set).testBit i) C m = bestTo (oth set last) C m := by
      apply bestTo_congr
      intro i hi
      rw [there_bit, oth]
      have : ¬ (i : Int) = last := by omega
      simp [hi, this]
    have : pick set last C m = bestTo (oth set last) C m := by unfold pick; rw [if_neg]; omega
    rw [this, ← e]
    exact ⟨rfl, by omega⟩
  · -- he alone is there
    have hb : ∀ i, i < m → (set.testBit i = false ↔ i = last.toNat) := by
      intro i hi
      have := there_bit (m := m) (set := set) i
      rw [h2, one_bit] at this
      by_cases e : last.toNat = i
      · simp [hi, e] at this; simp [this, e]
      · simp [hi, e] at this; simp [this]; omega
    have h3 : bestTo (oth set last) C m < 0 := by
      rw [bestTo_none]
      intro i hi
      rw [oth]
      by_cases e : (i : Int) = last
      · simp [e]
      · cases hh : set.testBit i with
        | true => simp
        | false => have := (hb i hi).1 hh; omega
    have h4 : pick set last C m = last := by
      unfold pick
      rw [if_pos ⟨h3, h1, (hb last.toNat (by omega)).2 rfl⟩]
    rw [h4]
    refine ⟨?_, h1⟩
    have h5 := bestTo_bd (fun i => (there m set).testBit i) C m
    have h6 := bestTo_ok (fun i => (there m set).testBit i) C m (by omega)
    generalize bestTo (fun i => (there m set).testBit i) C m = q at *
    simp only [h2, one_bit, decide_eq_true_eq] at h6
    omega
/-- the last one is left out -/
theorem pick_less {m set : Nat} {last : Int} {C : List Int} (h0 : there m set ≠ 0) (hl : last < m) (h1 : 0 ≤ last) (h2 : there m set ≠ 2 ^ last.toNat) :
    bestTo (fun i => (mns (there m set) (2 ^ last.toNat)).testBit i) C m = pick set last C m ∧ 0 ≤ pick set last C m := by
  have e : bestTo (fun i => (mns (there m set) (2 ^ last.toNat)).testBit i) C m = bestTo (oth set last) C m := by
    apply bestTo_congr
    intro i hi
    rw [mns_bit, there_bit, oth, one_bit]
    by_cases e : (i : Int) = last
    · have : last.toNat = i := by omega
      simp [e, this]
    · have : ¬ last.toNat = i := by omega
      simp [hi, e, this]
  have hne : ¬ bestTo (oth set last) C m < 0 := by
    rw [bestTo_none]
    intro hall
    -- then the last one alone is there, or nobody
    have hb : ∀ i, (there m set).testBit i = true → i = last.toNat := by
      intro i hi
      rw [there_bit] at hi
      simp only [Bool.and_eq_true, decide_eq_true_eq] at hi
      have := hall i hi.1
      rw [oth, hi.2] at this
      simp at this
      omega
    apply h2
    apply Nat.eq_of_testBit_eq
    intro i
    rw [one_bit]
    by_cases e : last.toNat = i
    · rw [decide_eq_true e]
      subst e
      cases hh : (there m set).testBit last.toNat with
      | true => rfl
      | false =>
        exfalso
        apply h0
        apply eq_zero_iff.2
        intro i
        cases hi : (there m set).testBit i with
        | false => rfl
        | true => have := hb i hi; subst this; rw [hh] at hi; cases hi
    · rw [decide_eq_false e]
      cases hi : (there m set).testBit i with
      | false => rfl
      | true => exact absurd (hb i hi).symm e
  have : pick set last C m = bestTo (oth set last) C m := by unfold pick; rw [if_neg]; omega
  rw [this, ← e]
  rw [← e] at hne
  exact ⟨rfl, by omega⟩

/-- how far the days have come: the calls of each, the days' people, the last one -/
structure CallSt where
  C : List Int
  out : List Int
  last : Int
def callsTo (m : Nat) (sets : List Int) : Nat → Option CallSt
  | 0 => some ⟨List.replicate m 0, [], -1⟩
  | d + 1 => match callsTo m sets d with
    | none => none
    | some s => if pick (sets.getD d 0).toNat s.last s.C m < 0 then none
      else some ⟨s.C.set (pick (sets.getD d 0).toNat s.last s.C m).toNat (s.C.getD (pick (sets.getD d 0).toNat s.last s.C m).toNat 0 + 1), s.out ++ [pick (sets.getD d 0).toNat s.last s.C m], pick (sets.getD d 0).toNat s.last s.C m⟩
structure CallOk (m d : Nat) (s : CallSt) : Prop where
  len : s.C.length = m
  few : ∀ i, 0 ≤ s.C.getD i 0 ∧ s.C.getD i 0 ≤ d
  outl : s.out.length = d
  lst : -1 ≤ s.last ∧ s.last < m
  neg : s.last < 0 ↔ d = 0
  tail : 0 < d → s.out[d - 1]? = some s.last
theorem callsTo_ok {m : Nat} (sets : List Int) (d : Nat) {s : CallSt} (h : callsTo m sets d = some s) : CallOk m d s := by
  induction d generalizing s with
  | zero =>
    simp only [callsTo, Option.some.injEq] at h
    subst h
    refine ⟨by simp, fun i => ?_, rfl, by simp; omega, by simp, by omega⟩
    simp only [List.getD_eq_getElem?_getD, List.getElem?_replicate]
    split <;> simp
  | succ d ih =>
    simp only [callsTo] at h
    cases e : callsTo m sets d with
    | none => rw [e] at h; cases h
    | some s0 =>
      rw [e] at h
      have k := ih e
      have hp := pick_bd (set := (sets.getD d 0).toNat) (C := s0.C) k.lst.2
      simp only at h
      generalize pick (sets.getD d 0).toNat s0.last s0.C m = p at *
      split at h
      · cases h
      · rename_i hn
        cases h
        refine ⟨by simpa using k.len, fun i => ?_, by simp [k.outl], ⟨by simp; omega, by simp; omega⟩, by simp; omega, fun _ => ?_⟩
        · have h1 := k.few i
          have h2 := k.few p.toNat
          simp only [List.getD_eq_getElem?_getD, List.getElem?_set] at h1 h2 ⊢
          split
          · split
            · simp only [Option.getD_some]; omega
            · simp; omega
          · omega
        · simp [k.outl]
theorem callsTo_stop {m : Nat} {sets : List Int} {d n : Nat} (h : callsTo m sets d = none) (hn : d ≤ n) : callsTo m sets n = none := by
  induction n with
  | zero => have : d = 0 := by omega
            subst this; exact h
  | succ n ih =>
    by_cases e : d = n + 1
    · subst e; exact h
    · simp only [callsTo, ih (by omega)]
end Go.Proofs.Ytfeehfmiicleaaa.Plain
