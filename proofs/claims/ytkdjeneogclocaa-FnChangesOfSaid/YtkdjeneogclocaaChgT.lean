/- Least changes: the table of what is left, the first order with it. No program stands here. -/
import Derived.Test.YtkdjeneogclocaaPlain
import Derived.Test.YtkdjeneogclocaaRulE
namespace Go.Proofs.Ytkdjeneogclocaa.Plain
set_option linter.unusedVariables false
set_option linter.unusedSimpArgs false
/-- the least of the values of those that are not in e, -1 if there is none -/
def bestF (g : Nat → Int) (e : Nat) : Nat → Int
  | 0 => -1
  | k + 1 => if e.testBit k = true then bestF g e k else if bestF g e k < 0 ∨ g k < bestF g e k then g k else bestF g e k
theorem bestF_congr {g g' : Nat → Int} {e : Nat} (k : Nat) (h : ∀ t, t < k → e.testBit t = false → g t = g' t) : bestF g e k = bestF g' e k := by
  induction k with
  | zero => rfl
  | succ k ih =>
    rw [bestF, bestF, ih fun t ht => h t (by omega)]
    cases hb : e.testBit k with
    | true => rfl
    | false => rw [h k (by omega) hb]
theorem bestF_cases {g : Nat → Int} {e : Nat} (k : Nat) : (bestF g e k = -1 ∧ ∀ t, t < k → e.testBit t = true) ∨ ∃ t, t < k ∧ e.testBit t = false ∧ bestF g e k = g t := by
  induction k with
  | zero => exact .inl ⟨rfl, fun t ht => by omega⟩
  | succ k ih =>
    rw [bestF]
    cases hb : e.testBit k with
    | true =>
      rw [if_pos rfl]
      rcases ih with ⟨h1, h2⟩ | ⟨t, h1, h2, h3⟩
      · refine .inl ⟨h1, fun t ht => ?_⟩
        rcases Nat.lt_or_ge t k with h | h
        · exact h2 t h
        · obtain rfl : t = k := by omega
          exact hb
      · exact .inr ⟨t, by omega, h2, h3⟩
    | false =>
      rw [if_neg (by simp)]
      by_cases hc : bestF g e k < 0 ∨ g k < bestF g e k
      · rw [if_pos hc]
        exact .inr ⟨k, by omega, hb, rfl⟩
      · rw [if_neg hc]
        rcases ih with ⟨h1, h2⟩ | ⟨t, h1, h2, h3⟩
        · omega
        · exact .inr ⟨t, by omega, h2, h3⟩
theorem bestF_le {g : Nat → Int} {e : Nat} (k : Nat) (hg : ∀ t, t < k → e.testBit t = false → 0 ≤ g t) : ∀ t, t < k → e.testBit t = false → 0 ≤ bestF g e k ∧ bestF g e k ≤ g t := by
  induction k with
  | zero => intro t ht; omega
  | succ k ih =>
    intro t ht hb
    have ih := ih fun t h => hg t (by omega)
    rw [bestF]
    cases hk : e.testBit k with
    | true =>
      rw [if_pos rfl]
      have : t ≠ k := fun h => by rw [h, hk] at hb; cases hb
      exact ih t (by omega) hb
    | false =>
      rw [if_neg (by simp)]
      have h0 := hg k (by omega) hk
      by_cases hc : bestF g e k < 0 ∨ g k < bestF g e k
      · rw [if_pos hc]
        refine ⟨h0, ?_⟩
        by_cases hte : t = k
        · subst hte; omega
        · have := ih t (by omega) hb
          omega
      · rw [if_neg hc]
        by_cases hte : t = k
        · subst hte; omega
        · have := ih t (by omega) hb
          omega
theorem bestF_ge {g : Nat → Int} {e : Nat} (k : Nat) (hg : ∀ t, t < k → e.testBit t = false → 0 ≤ g t) : -1 ≤ bestF g e k := by
  rcases bestF_cases (g := g) (e := e) k with ⟨h, _⟩ | ⟨t, h1, h2, h3⟩
  · omega
  · have := hg t h1 h2; omega
def restF (c : Nat → Nat → Int) (n : Nat) : Nat → Nat → Nat → Int
  | 0, _, _ => 0
  | f + 1, e, l => max 0 (bestF (fun t => c l t + restF c n f (e ||| 2 ^ t) t) e n)
theorem or_gt {e t : Nat} (h : e.testBit t = false) : e < e ||| 2 ^ t := by
  rcases Nat.lt_or_ge e (e ||| 2 ^ t) with h1 | h1
  · exact h1
  · have h2 : e ≤ e ||| 2 ^ t := Nat.left_le_or
    have h3 : e ||| 2 ^ t = e := by omega
    have h4 : (e ||| 2 ^ t).testBit t = true := by rw [Nat.testBit_or, Nat.testBit_two_pow_self, Bool.or_true]
    rw [h3, h] at h4; cases h4
theorem or_lt {e t n : Nat} (h : e < 2 ^ n) (ht : t < n) : e ||| 2 ^ t < 2 ^ n := Nat.or_lt_two_pow h (Nat.pow_lt_pow_right (by omega) ht)
theorem restF_stable (c : Nat → Nat → Int) (n : Nat) : ∀ f f' e l, e < 2 ^ n → 2 ^ n - e ≤ f → 2 ^ n - e ≤ f' → restF c n f e l = restF c n f' e l
  | 0, _, e, l, he, h, _ => by omega
  | _ + 1, 0, e, l, he, _, h => by omega
  | f + 1, f' + 1, e, l, he, h, h' => by
    rw [restF, restF]
    congr 1
    refine bestF_congr n fun t ht hb => ?_
    have := or_gt hb
    rw [restF_stable c n f f' _ t (or_lt he ht) (by omega) (by omega)]
/-- what is left behind the set e and its last one l -/
def Rr (c : Nat → Nat → Int) (n e l : Nat) : Int := restF c n (2 ^ n) e l
/-- the cost by way of t -/
def byW (c : Nat → Nat → Int) (n e l t : Nat) : Int := c l t + Rr c n (e ||| 2 ^ t) t
theorem Rr_eq (c : Nat → Nat → Int) (n : Nat) {e : Nat} (he : e < 2 ^ n) (l : Nat) : Rr c n e l = max 0 (bestF (byW c n e l) e n) := by
  have h0 : 0 < 2 ^ n := Nat.pow_pos (by omega)
  rw [Rr, restF_stable c n (2 ^ n) (2 ^ n - e + 1) e l he (by omega) (by omega), restF]
  congr 1
  refine bestF_congr n fun t ht hb => ?_
  have := or_gt hb
  rw [byW, Rr, restF_stable c n (2 ^ n - e) (2 ^ n) _ t (or_lt he ht) (by omega) (by omega)]
theorem Rr_ge (c : Nat → Nat → Int) (n : Nat) {e : Nat} (he : e < 2 ^ n) (l : Nat) : 0 ≤ Rr c n e l := by rw [Rr_eq c n he]; omega
theorem byW_ge {c : Nat → Nat → Int} (hc : ∀ i j, 0 ≤ c i j) {n e : Nat} (he : e < 2 ^ n) (l t : Nat) (ht : t < n) : 0 ≤ byW c n e l t := by
  have := hc l t
  have := Rr_ge c n (or_lt he ht) t
  rw [byW]; omega
theorem Rr_full {c : Nat → Nat → Int} {n e : Nat} (he : e < 2 ^ n) (l : Nat) (h : ∀ t, t < n → e.testBit t = true) : Rr c n e l = 0 := by
  rw [Rr_eq c n he]
  rcases bestF_cases (g := byW c n e l) (e := e) n with ⟨h1, _⟩ | ⟨t, h1, h2, _⟩
  · rw [h1]; rfl
  · rw [h t h1] at h2; cases h2
theorem Rr_le {c : Nat → Nat → Int} (hc : ∀ i j, 0 ≤ c i j) {n e : Nat} (he : e < 2 ^ n) (l t : Nat) (ht : t < n) (hb : e.testBit t = false) : Rr c n e l ≤ byW c n e l t := by
  rw [Rr_eq c n he]
  have := bestF_le (g := byW c n e l) (e := e) n (fun t h _ => byW_ge hc he l t h) t ht hb
  omega
theorem Rr_at {c : Nat → Nat → Int} (hc : ∀ i j, 0 ≤ c i j) {n e : Nat} (he : e < 2 ^ n) (l : Nat) (h : ∃ t, t < n ∧ e.testBit t = false) : ∃ t, t < n ∧ e.testBit t = false ∧ byW c n e l t = Rr c n e l := by
  obtain ⟨t0, h1, h2⟩ := h
  have h3 := bestF_le (g := byW c n e l) (e := e) n (fun t h _ => byW_ge hc he l t h) t0 h1 h2
  rcases bestF_cases (g := byW c n e l) (e := e) n with ⟨h4, _⟩ | ⟨t, h4, h5, h6⟩
  · omega
  · refine ⟨t, h4, h5, ?_⟩
    rw [Rr_eq c n he, ← h6]; omega
theorem restF_bd {c : Nat → Nat → Int} (hc : ∀ i j, 0 ≤ c i j ∧ c i j ≤ 8) (n : Nat) : ∀ f e l, 0 ≤ restF c n f e l ∧ restF c n f e l ≤ 8 * f
  | 0, e, l => by simp [restF]
  | f + 1, e, l => by
    rw [restF]
    rcases bestF_cases (g := fun t => c l t + restF c n f (e ||| 2 ^ t) t) (e := e) n with ⟨h, _⟩ | ⟨t, _, _, h⟩
    · rw [h]; push_cast; omega
    · rw [h]
      have h1 := hc l t
      have h2 := restF_bd hc n f (e ||| 2 ^ t) t
      push_cast; omega
theorem Rr_bd {c : Nat → Nat → Int} (hc : ∀ i j, 0 ≤ c i j ∧ c i j ≤ 8) {n : Nat} (hn : n ≤ 6) (e l : Nat) : 0 ≤ Rr c n e l ∧ Rr c n e l ≤ 512 := by
  have h1 := restF_bd hc n (2 ^ n) e l
  have h2 : 2 ^ n ≤ 2 ^ 6 := Nat.pow_le_pow_right (by omega) hn
  rw [Rr]
  have h3 : ((2 ^ n : Nat) : Int) ≤ 64 := by omega
  omega
/-- the least of all -/
def firstF (c : Nat → Nat → Int) (n : Nat) : Int := bestF (fun t => byW c n 0 t t) 0 n
/-- the set of the first k -/
def bitsF (f : Nat → Nat) : Nat → Nat
  | 0 => 0
  | k + 1 => bitsF f k ||| 2 ^ f k
theorem bitsF_bit (f : Nat → Nat) (k t : Nat) : (bitsF f k).testBit t = true ↔ ∃ i, i < k ∧ f i = t := by
  induction k with
  | zero => simp [bitsF]
  | succ k ih =>
    rw [bitsF, Nat.testBit_or, Bool.or_eq_true, ih, Nat.testBit_two_pow, decide_eq_true_iff]
    constructor
    · rintro (⟨i, h1, h2⟩ | h)
      · exact ⟨i, by omega, h2⟩
      · exact ⟨k, by omega, h⟩
    · rintro ⟨i, h1, h2⟩
      by_cases hik : i = k
      · subst hik; exact .inr h2
      · exact .inl ⟨i, by omega, h2⟩
theorem bitsF_lt {f : Nat → Nat} {n : Nat} (k : Nat) (h : ∀ i, i < k → f i < n) : bitsF f k < 2 ^ n := by
  induction k with
  | zero => exact Nat.pow_pos (by omega)
  | succ k ih => exact or_lt (ih fun i hi => h i (by omega)) (h k (by omega))
theorem bitsF_congr {f g : Nat → Nat} (k : Nat) (h : ∀ i, i < k → f i = g i) : bitsF f k = bitsF g k := by
  induction k with
  | zero => rfl
  | succ k ih => rw [bitsF, bitsF, ih fun i hi => h i (by omega), h k (by omega)]
theorem bitsF_pos {f : Nat → Nat} {k : Nat} (h : 0 < k) : 0 < bitsF f k := by
  rcases Nat.eq_zero_or_pos (bitsF f k) with h0 | h0
  · have := (bitsF_bit f k (f 0)).2 ⟨0, h, rfl⟩
    rw [h0] at this; simp at this
  · exact h0
/-- the cost of the first i + 1 -/
def chgF (c : Nat → Nat → Int) (f : Nat → Nat) : Nat → Int
  | 0 => c (f 0) (f 0)
  | i + 1 => chgF c f i + c (f i) (f (i + 1))
theorem chgF_congr {c : Nat → Nat → Int} {f g : Nat → Nat} (k : Nat) (h : ∀ i, i ≤ k → f i = g i) : chgF c f k = chgF c g k := by
  induction k with
  | zero => rw [chgF, chgF, h 0 (by omega)]
  | succ k ih => rw [chgF, chgF, ih fun i hi => h i (by omega), h k (by omega), h (k + 1) (by omega)]
theorem chgF_bd {c : Nat → Nat → Int} (hc : ∀ i j, 0 ≤ c i j ∧ c i j ≤ 8) (f : Nat → Nat) (k : Nat) : 0 ≤ chgF c f k ∧ chgF c f k ≤ 8 * (k + 1) := by
  induction k with
  | zero => have := hc (f 0) (f 0); rw [chgF]; omega
  | succ k ih => have := hc (f k) (f (k + 1)); rw [chgF]; push_cast; omega
theorem first_le {c : Nat → Nat → Int} (hc : ∀ i j, 0 ≤ c i j) {n : Nat} (n1 : 1 ≤ n) {f : Nat → Nat} (hf : Perm f n) : firstF c n ≤ chgF c f (n - 1) := by
  have key : ∀ m k, k + m = n - 1 → Rr c n (bitsF f (k + 1)) (f k) + chgF c f k ≤ chgF c f (n - 1) := by
    intro m
    induction m with
    | zero =>
      intro k hk
      obtain rfl : k = n - 1 := by omega
      rw [Rr_full (bitsF_lt _ fun i hi => hf.lt i (by omega))]
      · omega
      · intro t ht
        obtain ⟨i, hi, e⟩ := hf.onto t ht
        exact (bitsF_bit _ _ _).2 ⟨i, by omega, e⟩
    | succ m ih =>
      intro k hk
      have h1 := ih (k + 1) (by omega)
      have hb : (bitsF f (k + 1)).testBit (f (k + 1)) = false := by
        cases e : (bitsF f (k + 1)).testBit (f (k + 1)) with
        | false => rfl
        | true =>
          obtain ⟨i, hi, e2⟩ := (bitsF_bit _ _ _).1 e
          have := hf.inj i (k + 1) (by omega) (by omega) e2
          omega
      have h2 := Rr_le hc (bitsF_lt (k + 1) fun i hi => hf.lt i (by omega)) (f k) (f (k + 1)) (hf.lt _ (by omega)) hb
      rw [byW] at h2
      rw [chgF] at h1
      rw [show bitsF f (k + 1 + 1) = bitsF f (k + 1) ||| 2 ^ f (k + 1) from rfl] at h1
      omega
  have h1 := key (n - 1) 0 (by omega)
  have h2 := bestF_le (g := fun t => byW c n 0 t t) (e := 0) n (fun t h _ => byW_ge hc (Nat.pow_pos (by omega)) t t h) (f 0) (hf.lt 0 (by omega)) (Nat.zero_testBit _)
  rw [firstF]
  have h3 := h2.2
  rw [byW] at h3
  rw [chgF] at h1
  rw [show bitsF f (0 + 1) = 0 ||| 2 ^ f 0 from rfl] at h1
  omega
/-- how far the search has come -/
structure SchI (c : Nat → Nat → Int) (n : Nat) (d : List Int) (left : Int) : Prop where
  lt : ∀ k, k < d.length → 0 ≤ d.getD k 0 ∧ d.getD k 0 < (n : Int)
  inj : ∀ i j, i < d.length → j < d.length → ordF d i = ordF d j → i = j
  nil : d.length = 0 → left = firstF c n
  cons : ∀ k, d.length = k + 1 → Rr c n (bitsF (ordF d) (k + 1)) (ordF d k) = left ∧ chgF c (ordF d) k + left = firstF c n
theorem SchI.ltN {c : Nat → Nat → Int} {n : Nat} {d : List Int} {left : Int} (h : SchI c n d left) {k : Nat} (hk : k < d.length) : ordF d k < n := by
  have := h.lt k hk
  rw [ordF]; omega
/-- the step to t -/
def stepF (c : Nat → Nat → Int) (d : List Int) (t : Nat) : Int := if d.length = 0 then c t t else c (ordF d (d.length - 1)) t
theorem ordF_app {d : List Int} {x : Int} {k : Nat} (hk : k < d.length) : ordF (d ++ [x]) k = ordF d k := by
  rw [ordF, ordF, List.getD_eq_getElem?_getD, List.getElem?_append_left hk, ← List.getD_eq_getElem?_getD]
theorem ordF_last (d : List Int) (t : Nat) : ordF (d ++ [(t : Int)]) d.length = t := by
  rw [ordF, List.getD_eq_getElem?_getD, List.getElem?_append_right (Nat.le_refl _)]; simp
theorem SchI.start (c : Nat → Nat → Int) (n : Nat) : SchI c n [] (firstF c n) := ⟨fun k hk => by simp at hk, fun i j hi => by simp at hi, fun _ => rfl, fun k hk => by simp at hk⟩
theorem SchI.step {c : Nat → Nat → Int} {n : Nat} {d : List Int} {left : Int} (h : SchI c n d left) {t : Nat} (ht : t < n) (hb : (bitsF (ordF d) d.length).testBit t = false) (he : stepF c d t + Rr c n (bitsF (ordF d) d.length ||| 2 ^ t) t = left) : SchI c n (d ++ [(t : Int)]) (left - stepF c d t) := by
  have hno : ∀ i, i < d.length → ordF d i ≠ t := fun i hi e => by
    have := (bitsF_bit _ _ _).2 ⟨i, hi, e⟩
    rw [this] at hb; cases hb
  have hA : ∀ k, k < d.length + 1 → ordF (d ++ [(t : Int)]) k = if k < d.length then ordF d k else t := by
    intro k hk
    split
    · rename_i h1; exact ordF_app h1
    · obtain rfl : k = d.length := by omega
      exact ordF_last d t
  refine ⟨fun k hk => ?_, fun i j hi hj e => ?_, fun h0 => by simp at h0, fun k hk => ?_⟩
  · simp at hk
    rcases Nat.lt_or_ge k d.length with h1 | h1
    · rw [List.getD_eq_getElem?_getD, List.getElem?_append_left h1, ← List.getD_eq_getElem?_getD]; exact h.lt k h1
    · obtain rfl : k = d.length := by omega
      rw [List.getD_eq_getElem?_getD, List.getElem?_append_right (Nat.le_refl _)]; simp; omega
  · simp at hi hj
    rw [hA i hi, hA j hj] at e
    split at e <;> split at e
    · exact h.inj i j ‹_› ‹_› e
    · exact absurd e (hno i ‹_›)
    · exact absurd e.symm (hno j ‹_›)
    · omega
  · simp at hk
    subst hk
    have hbe : bitsF (ordF (d ++ [(t : Int)])) (d.length + 1) = bitsF (ordF d) d.length ||| 2 ^ t := by
      rw [bitsF, ordF_last, bitsF_congr (g := ordF d) _ fun i hi => ordF_app hi]
    rw [hbe, ordF_last]
    refine ⟨by omega, ?_⟩
    rcases Nat.eq_zero_or_pos d.length with h0 | h0
    · have h1 := h.nil h0
      rw [h0, chgF, show ordF (d ++ [(t : Int)]) 0 = t by have := ordF_last d t; rwa [h0] at this]
      rw [stepF, if_pos h0]; omega
    · obtain ⟨k, hk⟩ : ∃ k, d.length = k + 1 := ⟨d.length - 1, by omega⟩
      have h1 := (h.cons k hk).2
      have hl := ordF_last d t
      rw [hk] at hl
      rw [hk, chgF, chgF_congr (g := ordF d) k fun i hi => ordF_app (by omega), ordF_app (by omega : k < d.length), hl]
      rw [stepF, if_neg (by omega), hk, show k + 1 - 1 = k by omega]
      omega
theorem SchI.free {c : Nat → Nat → Int} {n : Nat} {d : List Int} {left : Int} (h : SchI c n d left) (hl : d.length < n) : ∃ t, t < n ∧ (bitsF (ordF d) d.length).testBit t = false := by
  rcases Classical.em (∃ t, t < n ∧ (bitsF (ordF d) d.length).testBit t = false) with h1 | h1
  · exact h1
  · exfalso
    have hall : ∀ t, t < n → ∃ i, i < d.length ∧ ordF d i = t := fun t ht => by
      cases e : (bitsF (ordF d) d.length).testBit t with
      | false => exact absurd ⟨t, ht, e⟩ h1
      | true => exact (bitsF_bit _ _ _).1 e
    have key : ∀ m, ∀ f : Nat → Nat, (∀ i j, i < m → j < m → f i = f j → i = j) → (∀ t, t < n → ∃ i, i < m ∧ f i = t) → n ≤ m := by
      intro m f hf hs
      exact Classical.byContradiction fun hlt => by
        have hg : ∃ g : Nat → Nat, ∀ t, t < n → g t < m ∧ f (g t) = t :=
          ⟨fun t => if h : t < n then Classical.choose (hs t h) else 0, fun t ht => by
            simp only [dif_pos ht]; exact Classical.choose_spec (hs t ht)⟩
        obtain ⟨g, hg⟩ := hg
        have hp : Perm g n := ⟨fun k hk => by have := (hg k hk).1; omega, fun a b ha hb e => by
          have h1 := (hg a ha).2
          have h2 := (hg b hb).2
          rw [e] at h1; omega⟩
        obtain ⟨k, hk, e⟩ := hp.onto m (by omega)
        have := (hg k hk).1
        omega
    have := key d.length (ordF d) h.inj hall
    omega
theorem SchI.next {c : Nat → Nat → Int} (hc : ∀ i j, 0 ≤ c i j) {n : Nat} {d : List Int} {left : Int} (h : SchI c n d left) (hl : d.length < n) : ∃ t, t < n ∧ (bitsF (ordF d) d.length).testBit t = false ∧ stepF c d t + Rr c n (bitsF (ordF d) d.length ||| 2 ^ t) t = left := by
  obtain hf := h.free hl
  rcases Nat.eq_zero_or_pos d.length with h0 | h0
  · have h1 := h.nil h0
    rw [h0] at hf ⊢
    have h2 := bestF_cases (g := fun t => byW c n 0 t t) (e := 0) n
    rw [show bestF (fun t => byW c n 0 t t) 0 n = firstF c n from rfl, ← h1] at h2
    rcases h2 with ⟨_, h3⟩ | ⟨t, h3, h4, h5⟩
    · have := h3 0 (by omega)
      simp at this
    · refine ⟨t, h3, h4, ?_⟩
      rw [stepF, if_pos h0, h5]
      rfl
  · obtain ⟨k, hk⟩ : ∃ k, d.length = k + 1 := ⟨d.length - 1, by omega⟩
    have h1 := (h.cons k hk).1
    rw [hk] at hf ⊢
    obtain ⟨t, h3, h4, h5⟩ := Rr_at hc (bitsF_lt (k + 1) fun i hi => h.ltN (by omega)) (ordF d k) hf
    refine ⟨t, h3, h4, ?_⟩
    rw [stepF, if_neg (by omega), hk, show k + 1 - 1 = k by omega, ← h1, ← h5]
    rfl
theorem SchI.fin {c : Nat → Nat → Int} {n : Nat} {d : List Int} {left : Int} (h : SchI c n d left) (n1 : 1 ≤ n) (hl : d.length = n) : Perm (ordF d) n ∧ chgF c (ordF d) (n - 1) = firstF c n := by
  have hp : Perm (ordF d) n := ⟨fun k hk => h.ltN (by omega), fun a b ha hb e => h.inj a b (by omega) (by omega) e⟩
  refine ⟨hp, ?_⟩
  have h1 := h.cons (n - 1) (by omega)
  rw [Rr_full (bitsF_lt _ fun i hi => hp.lt i (by omega))] at h1
  · omega
  · intro t ht
    obtain ⟨i, hi, e⟩ := hp.onto t ht
    exact (bitsF_bit _ _ _).2 ⟨i, by omega, e⟩
end Go.Proofs.Ytkdjeneogclocaa.Plain
