/- Tables in plain numbers: the digits of a number, the odometer's step, and the walk through all tables. No program stands here. -/
import Derived.Test.YtldehffhpblliaaPlain
namespace Go.Proofs.Ytldehffhpblliaa.Plain

/-- digit i of the k-th table: the first is 0 -/
def dig (p ev k i : Nat) : Nat := if i = 0 then 0 else (k / p ^ (ev - 1 - i)) % p
/-- the k-th table -/
def tabK (p ev k : Nat) : List Int := (List.range ev).map fun i => (dig p ev k i : Int)
theorem tabK_len (p ev k : Nat) : (tabK p ev k).length = ev := by simp [tabK]
theorem tabK_get {p ev k i : Nat} (h : i < ev) : (tabK p ev k)[i]? = some (dig p ev k i : Int) := by simp [tabK, h]
theorem dig_lt {p : Nat} (hp : 0 < p) (ev k i : Nat) : dig p ev k i < p := by
  unfold dig; split
  · exact hp
  · exact Nat.mod_lt _ hp
theorem tabK_in {p : Nat} (hp : 0 < p) (ev k : Nat) : ∀ x ∈ tabK p ev k, 0 ≤ x ∧ x ≤ (p : Int) - 1 := by
  intro x hx
  simp only [tabK, List.mem_map, List.mem_range] at hx
  obtain ⟨i, _, rfl⟩ := hx
  have := dig_lt hp ev k i
  omega
/-- the table while the odometer steps: what lies behind place at is 0 again -/
def carry (p ev k at' : Nat) : List Int := (List.range ev).map fun i => if at' < i then 0 else (dig p ev k i : Int)
theorem carry_len (p ev k a : Nat) : (carry p ev k a).length = ev := by simp [carry]
theorem carry_get {p ev k a i : Nat} (h : i < ev) : (carry p ev k a)[i]? = some (if a < i then 0 else (dig p ev k i : Int)) := by simp [carry, h]
theorem carry_zero {p ev k : Nat} : carry p ev k (ev - 1) = tabK p ev k := by
  apply List.ext_getElem?
  intro i
  by_cases h : i < ev
  · rw [carry_get h, tabK_get h, if_neg (by omega)]
  · rw [List.getElem?_eq_none (by rw [carry_len]; omega), List.getElem?_eq_none (by rw [tabK_len]; omega)]
theorem carry_step {p ev k a : Nat} (h : a + 1 < ev) : (carry p ev k (a + 1)).set (a + 1) 0 = carry p ev k a := by
  apply List.ext_getElem?
  intro i
  rw [List.getElem?_set, carry_len]
  by_cases hi : i < ev
  · rw [carry_get hi, carry_get hi]
    by_cases e : a + 1 = i
    · subst e; rw [if_pos rfl, if_pos hi, if_pos (by omega)]
    · rw [if_neg e]
      by_cases e2 : a < i
      · rw [if_pos (by omega), if_pos e2]
      · rw [if_neg (by omega), if_neg e2]
  · rw [if_neg (by omega), List.getElem?_eq_none (by rw [carry_len]; omega), List.getElem?_eq_none (by rw [carry_len]; omega)]
/-- all digits behind place at are the greatest: so is the number's rest -/
theorem rest_step {p k j : Nat} (hp : 0 < p) (h : k % p ^ j = p ^ j - 1) (hd : (k / p ^ j) % p = p - 1) : k % p ^ (j + 1) = p ^ (j + 1) - 1 := by
  have hq : 0 < p ^ j := Nat.pow_pos hp
  rw [Nat.pow_succ, Nat.mod_mul, h, hd]
  have : p ^ j * (p - 1) = p ^ j * p - p ^ j := by rw [Nat.mul_sub, Nat.mul_one]
  have : p ^ j ≤ p ^ j * p := Nat.le_mul_of_pos_right _ hp
  omega
theorem rest_form {p k j : Nat} (hp : 0 < p) (h : k % p ^ j = p ^ j - 1) : k + 1 = p ^ j * (k / p ^ j + 1) := by
  have hq : 0 < p ^ j := Nat.pow_pos hp
  have := Nat.mod_add_div k (p ^ j)
  rw [Nat.mul_add, Nat.mul_one]
  omega
/-- the last table of all -/
theorem last_table {p ev k : Nat} (hp : 0 < p) (hk : k < p ^ (ev - 1)) (h : k % p ^ (ev - 1) = p ^ (ev - 1) - 1) : k + 1 = p ^ (ev - 1) := by
  rw [Nat.mod_eq_of_lt hk] at h
  have hq : 0 < p ^ (ev - 1) := Nat.pow_pos hp
  omega
theorem not_last {p ev k j : Nat} (hp : 0 < p) (hj : j + 1 < ev) (hk : k < p ^ (ev - 1)) (h : k % p ^ j = p ^ j - 1) (hd : (k / p ^ j) % p ≠ p - 1) : k + 1 < p ^ (ev - 1) := by
  rcases Nat.lt_or_ge (k + 1) (p ^ (ev - 1)) with hc | hc
  · exact hc
  · exfalso
    have e : k + 1 = p ^ (ev - 1) := by omega
    have hq : 0 < p ^ j := Nat.pow_pos hp
    rw [rest_form hp h, show ev - 1 = j + ((ev - 2 - j) + 1) by omega, Nat.pow_add] at e
    have e2 := Nat.eq_of_mul_eq_mul_left hq e
    rw [Nat.pow_succ] at e2
    have h1 : (k / p ^ j + 1) % p = 0 := by rw [e2]; exact Nat.mul_mod_left _ _
    have h2 := Nat.mod_lt (k / p ^ j) hp
    generalize k / p ^ j = a at *
    have : (a + 1) % p = a % p + 1 := by
      rw [Nat.add_mod]
      rcases Nat.lt_or_ge 1 p with h3 | h3
      · rw [Nat.mod_eq_of_lt h3, Nat.mod_eq_of_lt (by omega)]
      · have : p = 1 := by omega
        subst this
        omega
    omega
theorem pow_split {p k a b : Nat} (h : a ≤ b) : k / p ^ b = k / p ^ a / p ^ (b - a) := by
  rw [Nat.div_div_eq_div_mul, ← Nat.pow_add, show a + (b - a) = b by omega]
/-- the odometer's last move: the next table -/
theorem next_table {p ev k j : Nat} (hp : 0 < p) (hj : j + 1 < ev) (h : k % p ^ j = p ^ j - 1) (hd : (k / p ^ j) % p ≠ p - 1) :
    (carry p ev k (ev - 1 - j)).set (ev - 1 - j) ((dig p ev k (ev - 1 - j) : Int) + 1) = tabK p ev (k + 1) := by
  have hq : 0 < p ^ j := Nat.pow_pos hp
  have hf := rest_form hp h
  apply List.ext_getElem?
  intro i
  rw [List.getElem?_set, carry_len]
  by_cases hi : i < ev
  · rw [carry_get hi, tabK_get hi]
    have h2 := Nat.mod_lt (k / p ^ j) hp
    have hs : (k / p ^ j + 1) % p = (k / p ^ j) % p + 1 := by
      generalize k / p ^ j = a at *
      rw [Nat.add_mod]
      rcases Nat.lt_or_ge 1 p with h3 | h3
      · rw [Nat.mod_eq_of_lt h3, Nat.mod_eq_of_lt (by omega)]
      · have : p = 1 := by omega
        subst this
        omega
    by_cases e : ev - 1 - j = i
    · subst e
      rw [if_pos rfl, if_pos hi]
      simp only [dig, if_neg (show ¬ ev - 1 - j = 0 by omega), show ev - 1 - (ev - 1 - j) = j by omega, Option.some.injEq]
      rw [hf, Nat.mul_div_cancel_left _ hq, hs]
      omega
    · rw [if_neg e]
      by_cases e2 : ev - 1 - j < i
      · rw [if_pos e2]
        -- a lower digit: it is 0 again
        simp only [dig, if_neg (show ¬ i = 0 by omega), Option.some.injEq]
        rw [hf, show p ^ j = p ^ (ev - 1 - i) * p ^ (j - (ev - 1 - i)) by rw [← Nat.pow_add]; congr 1; omega, Nat.mul_assoc, Nat.mul_div_cancel_left _ (Nat.pow_pos hp), show j - (ev - 1 - i) = (j - (ev - 1 - i) - 1) + 1 by omega, Nat.pow_succ, Nat.mul_right_comm, Nat.mul_mod_left]
        rfl
      · rw [if_neg e2]
        by_cases e0 : i = 0
        · subst e0; simp [dig]
        · simp only [dig, if_neg e0, Option.some.injEq]
          have hx : j + 1 ≤ ev - 1 - i := by omega
          rw [pow_split (p := p) (k := k + 1) hx, pow_split (p := p) (k := k) hx]
          have e3 : (k + 1) / p ^ (j + 1) = k / p ^ (j + 1) := by
            rw [Nat.pow_succ, ← Nat.div_div_eq_div_mul, ← Nat.div_div_eq_div_mul, hf, Nat.mul_div_cancel_left _ hq]
            generalize k / p ^ j = a at *
            have a1 := Nat.mod_add_div a p
            have a2 := Nat.mod_add_div (a + 1) p
            rw [hs] at a2
            have : p * ((a + 1) / p) = p * (a / p) := by omega
            exact Nat.eq_of_mul_eq_mul_left hp this
          rw [e3]
  · rw [if_neg (by omega), List.getElem?_eq_none (by rw [carry_len]; omega), List.getElem?_eq_none (by rw [tabK_len]; omega)]
theorem tab_zero {p ev : Nat} : tabK p ev 0 = List.replicate ev 0 := by
  apply List.ext_getElem?
  intro i
  by_cases hi : i < ev
  · rw [tabK_get hi]; simp [hi, dig]
  · rw [List.getElem?_eq_none (by rw [tabK_len]; omega)]; simp [hi]
/-- the reference's filling of a table from the back -/
def fillT (p ev k at' : Nat) : List Int := (List.range ev).map fun i => if at' < i then (dig p ev k i : Int) else 0
theorem fillT_len (p ev k a : Nat) : (fillT p ev k a).length = ev := by simp [fillT]
theorem fillT_get {p ev k a i : Nat} (h : i < ev) : (fillT p ev k a)[i]? = some (if a < i then (dig p ev k i : Int) else 0) := by simp [fillT, h]
theorem fillT_zero {p ev k : Nat} : fillT p ev k (ev - 1) = List.replicate ev 0 := by
  apply List.ext_getElem?
  intro i
  by_cases hi : i < ev
  · rw [fillT_get hi, if_neg (by omega)]; simp [hi]
  · rw [List.getElem?_eq_none (by rw [fillT_len]; omega)]; simp [hi]
theorem fillT_step {p ev k a : Nat} (h : a + 1 < ev) : (fillT p ev k (a + 1)).set (a + 1) ((k / p ^ (ev - 1 - (a + 1)) % p : Nat) : Int) = fillT p ev k a := by
  apply List.ext_getElem?
  intro i
  rw [List.getElem?_set, fillT_len]
  by_cases hi : i < ev
  · rw [fillT_get hi, fillT_get hi]
    by_cases e : a + 1 = i
    · subst e; rw [if_pos rfl, if_pos hi, if_pos (by omega)]; simp [dig]
    · rw [if_neg e]
      by_cases e2 : a < i
      · rw [if_pos (by omega), if_pos e2]
      · rw [if_neg (by omega), if_neg e2]
  · rw [if_neg (by omega), List.getElem?_eq_none (by rw [fillT_len]; omega), List.getElem?_eq_none (by rw [fillT_len]; omega)]
theorem fillT_done {p ev k : Nat} : fillT p ev k 0 = tabK p ev k := by
  apply List.ext_getElem?
  intro i
  by_cases hi : i < ev
  · rw [fillT_get hi, tabK_get hi]
    by_cases e : i = 0
    · subst e; simp [dig]
    · rw [if_pos (by omega)]
  · rw [List.getElem?_eq_none (by rw [fillT_len]; omega), List.getElem?_eq_none (by rw [tabK_len]; omega)]
/-- the impl's capped power -/
def pwC (c : Nat) (p : Nat) : Nat → Nat
  | 0 => 1
  | n + 1 => min c (pwC c p n * p)
theorem pwC_eq {c p : Nat} (hp : 0 < p) (hc : 1 ≤ c) (n : Nat) : pwC c p n = min c (p ^ n) := by
  induction n with
  | zero => simp [pwC]; omega
  | succ n ih =>
    rw [pwC, ih, Nat.pow_succ]
    rcases Nat.le_total c (p ^ n) with h | h
    · rw [Nat.min_eq_left h]
      have h1 : c ≤ c * p := Nat.le_mul_of_pos_right _ hp
      have h2 : c ≤ p ^ n * p := Nat.le_trans h (Nat.le_mul_of_pos_right _ hp)
      rw [Nat.min_eq_left h1, Nat.min_eq_left h2]
    · rw [Nat.min_eq_right h]
theorem pow_mono {p a b : Nat} (hp : 0 < p) (h : a ≤ b) : p ^ a ≤ p ^ b := Nat.pow_le_pow_right hp h
/-- how many of the first k hold; the first that does; the one of the least number -/
def cntT (kb : Nat → Bool) : Nat → Nat
  | 0 => 0
  | k + 1 => if kb k then cntT kb k + 1 else cntT kb k
def fstT (kb : Nat → Bool) : Nat → Option Nat
  | 0 => none
  | k + 1 => match fstT kb k with
    | some i => some i
    | none => if kb k then some k else none
def bstT (kb : Nat → Bool) (sm : Nat → Int) : Nat → Option Nat
  | 0 => none
  | k + 1 => if kb k then (match bstT kb sm k with
    | none => some k
    | some b => if sm k < sm b then some k else some b) else bstT kb sm k
def lstT (kb : Nat → Bool) (sm : Nat → Int) (k : Nat) : Int := match bstT kb sm k with
  | some j => sm j
  | none => 0
theorem cnt_le (kb : Nat → Bool) (k : Nat) : cntT kb k ≤ k := by
  induction k with
  | zero => simp [cntT]
  | succ k ih => rw [cntT]; split <;> omega
theorem fst_none (kb : Nat → Bool) (k : Nat) : fstT kb k = none ↔ cntT kb k = 0 := by
  induction k with
  | zero => simp [fstT, cntT]
  | succ k ih =>
    rw [fstT, cntT]
    cases hf : fstT kb k with
    | none =>
      have := ih.1 hf
      cases hk : kb k <;> simp [this]
    | some i =>
      have : ¬ cntT kb k = 0 := fun e => by rw [ih.2 e] at hf; cases hf
      cases hk : kb k <;> simp [this]
theorem bst_none (kb : Nat → Bool) (sm : Nat → Int) (k : Nat) : bstT kb sm k = none ↔ cntT kb k = 0 := by
  induction k with
  | zero => simp [bstT, cntT]
  | succ k ih =>
    rw [bstT, cntT]
    cases hk : kb k with
    | false => simpa using ih
    | true =>
      cases hb : bstT kb sm k with
      | none => simp
      | some b => simp only [if_true]; split <;> simp
theorem tab_no {kb : Nat → Bool} {sm : Nat → Int} {k : Nat} (h : kb k = false) : cntT kb (k + 1) = cntT kb k ∧ fstT kb (k + 1) = fstT kb k ∧ bstT kb sm (k + 1) = bstT kb sm k ∧ lstT kb sm (k + 1) = lstT kb sm k := by
  refine ⟨by rw [cntT, h]; rfl, ?_, by rw [bstT, h]; rfl, by rw [lstT, lstT, bstT, h]; rfl⟩
  rw [fstT, h]; cases fstT kb k <;> rfl
theorem tab_new {kb : Nat → Bool} {sm : Nat → Int} {k : Nat} (h : kb k = true) (h0 : cntT kb k = 0) : cntT kb (k + 1) = 1 ∧ fstT kb (k + 1) = some k ∧ bstT kb sm (k + 1) = some k ∧ lstT kb sm (k + 1) = sm k := by
  have hb := (bst_none kb sm k).2 h0
  have hf := (fst_none kb k).2 h0
  have e : bstT kb sm (k + 1) = some k := by rw [bstT, h, hb]; rfl
  exact ⟨by rw [cntT, h, h0]; rfl, by rw [fstT, hf, h]; rfl, e, by rw [lstT, e]⟩
theorem tab_more {kb : Nat → Bool} {sm : Nat → Int} {k : Nat} (h : kb k = true) (h0 : ¬ cntT kb k = 0) (hl : sm k < lstT kb sm k) : cntT kb (k + 1) = cntT kb k + 1 ∧ fstT kb (k + 1) = fstT kb k ∧ bstT kb sm (k + 1) = some k ∧ lstT kb sm (k + 1) = sm k := by
  cases hb : bstT kb sm k with
  | none => exact absurd ((bst_none kb sm k).1 hb) h0
  | some b =>
    cases hf : fstT kb k with
    | none => exact absurd ((fst_none kb k).1 hf) h0
    | some i =>
      rw [lstT, hb] at hl
      have e : bstT kb sm (k + 1) = some k := by rw [bstT, h, hb]; simp [hl]
      exact ⟨by rw [cntT, h]; rfl, by rw [fstT, hf], e, by rw [lstT, e]⟩
theorem tab_same {kb : Nat → Bool} {sm : Nat → Int} {k : Nat} (h : kb k = true) (h0 : ¬ cntT kb k = 0) (hl : ¬ sm k < lstT kb sm k) : cntT kb (k + 1) = cntT kb k + 1 ∧ fstT kb (k + 1) = fstT kb k ∧ bstT kb sm (k + 1) = bstT kb sm k ∧ lstT kb sm (k + 1) = lstT kb sm k := by
  cases hb : bstT kb sm k with
  | none => exact absurd ((bst_none kb sm k).1 hb) h0
  | some b =>
    cases hf : fstT kb k with
    | none => exact absurd ((fst_none kb k).1 hf) h0
    | some i =>
      rw [lstT, hb] at hl
      have e : bstT kb sm (k + 1) = some b := by rw [bstT, h, hb]; simp [hl]
      exact ⟨by rw [cntT, h]; rfl, by rw [fstT, hf], e, by rw [lstT, lstT, e, hb]⟩
end Go.Proofs.Ytldehffhpblliaa.Plain
