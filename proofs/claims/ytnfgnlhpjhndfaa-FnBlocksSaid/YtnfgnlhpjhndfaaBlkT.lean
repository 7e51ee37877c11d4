/- Two trains behind each other, heads, and delays that are as they must be: plain numbers. No program stands here. -/
import Derived.Test.YtnfgnlhpjhndfaaBlockT
import Derived.Test.YtnfgnlhpjhndfaaDelT
namespace Go.Proofs.Ytnfgnlhpjhndfaa.Plain
set_option linter.unusedVariables false
set_option linter.unusedSimpArgs false
/-- the sum of the first k -/
def preT (rs : List Int) : Nat → Int
  | 0 => 0
  | k + 1 => preT rs k + rs.getD k 0
/-- the greatest of the first k, 0 at least -/
def topTo (rs : List Int) : Nat → Int
  | 0 => 0
  | k + 1 => max (topTo rs k) (rs.getD k 0)
theorem preT_nonneg {rs : List Int} (h : ∀ k, 0 ≤ rs.getD k 0) (k : Nat) : 0 ≤ preT rs k := by
  induction k with
  | zero => simp [preT]
  | succ k ih => have := h k; simp only [preT]; omega
theorem topTo_ge {rs : List Int} (k : Nat) : 0 ≤ topTo rs k ∧ ∀ j, j < k → rs.getD j 0 ≤ topTo rs k := by
  induction k with
  | zero => exact ⟨by simp [topTo], fun j hj => by omega⟩
  | succ k ih =>
    simp only [topTo]
    refine ⟨by omega, fun j hj => ?_⟩
    rcases Nat.lt_or_ge j k with h | h
    · have := ih.2 j h; omega
    · obtain rfl : j = k := by omega
      omega
theorem topTo_hit {rs : List Int} (k : Nat) (h : 0 < topTo rs k) : ∃ j, j < k ∧ rs.getD j 0 = topTo rs k := by
  induction k with
  | zero => simp [topTo] at h
  | succ k ih =>
    simp only [topTo] at h ⊢
    by_cases hc : rs.getD k 0 ≤ topTo rs k
    · obtain ⟨j, hj, e⟩ := ih (by omega)
      exact ⟨j, by omega, by omega⟩
    · exact ⟨k, by omega, by omega⟩
theorem first_train {rs : List Int} {h : Int} (h0 : 0 ≤ h) (hr : ∀ k, 0 ≤ rs.getD k 0) (k : Nat) : atT h (fun _ => 0) rs k = h + preT rs k := by
  induction k with
  | zero => simp [atT, preT]
  | succ k ih =>
    have := preT_nonneg hr k
    simp only [atT, preT, ih]
    omega
theorem far_train {rs : List Int} {n : Nat} {s H : Int} (hH : ∀ k, k < n → rs.getD k 0 ≤ H) (k : Nat) (hk : k ≤ n) : atT (s + H) (fun j => s + preT rs (j + 1)) rs k = s + H + preT rs k := by
  induction k with
  | zero => simp [atT, preT]
  | succ k ih =>
    have := hH k (by omega)
    have e : preT rs (k + 1) = preT rs k + rs.getD k 0 := rfl
    show max (atT (s + H) (fun j => s + preT rs (j + 1)) rs k) (s + preT rs (k + 1)) + rs.getD k 0 = _
    rw [ih (by omega)]
    omega
theorem near_train {rs : List Int} {n : Nat} {s H : Int} (hH : ∀ k, k < n → rs.getD k 0 ≤ H) (k : Nat) (hk : k ≤ n) :
    ((∃ j, j < k ∧ rs.getD j 0 = H) → atT (s + H - 1) (fun j => s + preT rs (j + 1)) rs k = s + H + preT rs k) ∧ ((¬ ∃ j, j < k ∧ rs.getD j 0 = H) → atT (s + H - 1) (fun j => s + preT rs (j + 1)) rs k = s + H - 1 + preT rs k) := by
  induction k with
  | zero => exact ⟨fun ⟨j, hj, _⟩ => by omega, fun _ => by simp [atT, preT]⟩
  | succ k ih =>
    obtain ⟨i1, i2⟩ := ih (by omega)
    have hk1 := hH k (by omega)
    have ep : preT rs (k + 1) = preT rs k + rs.getD k 0 := rfl
    have ea : atT (s + H - 1) (fun j => s + preT rs (j + 1)) rs (k + 1) = max (atT (s + H - 1) (fun j => s + preT rs (j + 1)) rs k) (s + preT rs (k + 1)) + rs.getD k 0 := rfl
    rw [ea]
    by_cases hc : ∃ j, j < k ∧ rs.getD j 0 = H
    · have e := i1 hc
      refine ⟨fun _ => ?_, fun hn => ?_⟩
      · rw [e]; omega
      · obtain ⟨j, hj, e⟩ := hc
        exact absurd ⟨j, by omega, e⟩ hn
    · have e := i2 hc
      refine ⟨fun ⟨j, hj, ej⟩ => ?_, fun hn => ?_⟩
      · have : j = k := by
          rcases Nat.lt_or_ge j k with h | h
          · exact absurd ⟨j, h, ej⟩ hc
          · omega
        subst this
        rw [e]; omega
      · have : rs.getD k 0 ≠ H := fun h => hn ⟨k, by omega, h⟩
        rw [e]; omega
theorem ahead_zero (rs hs : List Int) : aheadT rs hs 0 = fun _ => 0 := by funext k; rfl
theorem times_get {rs hs : List Int} {j : Nat} (hj : j < hs.length * rs.length) : (timesT rs hs).getD j 0 = cellT rs hs j := by
  rw [List.getD_eq_getElem?_getD, timesT, List.getElem?_map, List.getElem?_range hj]
  rfl
theorem times_len (rs hs : List Int) : (timesT rs hs).length = hs.length * rs.length := by simp [timesT]
/-- two trains -/
theorem two_first {rs : List Int} {s t : Int} (hs : 0 ≤ s) (hr : ∀ k, 0 ≤ rs.getD k 0) (hn : 1 ≤ rs.length) : (timesT rs [s, t]).getD (rs.length - 1) 0 = s + preT rs rs.length := by
  rw [times_get (by simp; omega)]
  have h := cellT_at (rs := rs) (hs := [s, t]) (i := 0) (k := rs.length - 1) (by omega)
  rw [Nat.zero_mul, Nat.zero_add] at h
  rw [h, ahead_zero, show rs.length - 1 + 1 = rs.length by omega]
  exact first_train hs hr _
theorem ahead_one {rs : List Int} {s t : Int} (hs : 0 ≤ s) (hr : ∀ k, 0 ≤ rs.getD k 0) : aheadT rs [s, t] 1 = fun k => s + preT rs (k + 1) := by
  funext k
  rw [aheadT, ahead_zero]
  exact first_train hs hr _
theorem two_second {rs : List Int} {s t : Int} (hs : 0 ≤ s) (hr : ∀ k, 0 ≤ rs.getD k 0) (hn : 1 ≤ rs.length) : (timesT rs [s, t]).getD (2 * rs.length - 1) 0 = atT t (fun k => s + preT rs (k + 1)) rs rs.length := by
  rw [times_get (by simp; omega)]
  have h := cellT_at (rs := rs) (hs := [s, t]) (i := 1) (k := rs.length - 1) (by omega)
  rw [show 1 * rs.length + (rs.length - 1) = 2 * rs.length - 1 by omega] at h
  rw [h, ahead_one hs hr, show rs.length - 1 + 1 = rs.length by omega]
  rfl
theorem two_far {rs : List Int} {s : Int} (hs : 0 ≤ s) (hr : ∀ k, 0 ≤ rs.getD k 0) (hn : 1 ≤ rs.length) : (timesT rs [s, s + topTo rs rs.length]).getD (2 * rs.length - 1) 0 = s + topTo rs rs.length + preT rs rs.length := by
  rw [two_second hs hr hn]
  exact far_train (topTo_ge rs.length).2 _ (Nat.le_refl _)
theorem two_near {rs : List Int} {s : Int} (hs : 0 ≤ s) (hr : ∀ k, 0 ≤ rs.getD k 0) (hn : 1 ≤ rs.length) (h0 : 0 < topTo rs rs.length) : (timesT rs [s, s + topTo rs rs.length - 1]).getD (2 * rs.length - 1) 0 = s + topTo rs rs.length + preT rs rs.length := by
  rw [two_second hs hr hn]
  exact (near_train (topTo_ge rs.length).2 _ (Nat.le_refl _)).1 (topTo_hit _ h0)
/-- the head, as the program finds it, and as the reference does -/
def headI (a b : List Int) : Nat → Int
  | 0 => a.getD 0 0
  | k + 1 => max (headI a b k) (preT a (k + 1) - preT b k)
def headS (a b : List Int) : Nat → Int
  | 0 => 0
  | k + 1 => if k = 0 ∨ headS a b k < preT a (k + 1) - preT b k then preT a (k + 1) - preT b k else headS a b k
theorem head_same (a b : List Int) (k : Nat) : headI a b (k + 1) = headS a b (k + 1) := by
  induction k with
  | zero => simp [headI, headS, preT]
  | succ k ih =>
    have e : headS a b (k + 1 + 1) = if k + 1 = 0 ∨ headS a b (k + 1) < preT a (k + 1 + 1) - preT b (k + 1) then preT a (k + 1 + 1) - preT b (k + 1) else headS a b (k + 1) := rfl
    rw [headI, ih, e]
    by_cases h : headS a b (k + 1) < preT a (k + 1 + 1) - preT b (k + 1)
    · rw [if_pos (.inr h)]; omega
    · rw [if_neg (by omega)]; omega
theorem head_self {rs : List Int} (hr : ∀ k, 0 ≤ rs.getD k 0) (k : Nat) : headI rs rs (k + 1) = topTo rs (k + 1) := by
  induction k with
  | zero => have := hr 0; simp only [headI, topTo, preT]; omega
  | succ k ih =>
    rw [headI, ih, show topTo rs (k + 1 + 1) = max (topTo rs (k + 1)) (rs.getD (k + 1) 0) from rfl]
    have : preT rs (k + 1 + 1) = preT rs (k + 1) + rs.getD (k + 1) 0 := rfl
    omega
theorem preT_bd {rs : List Int} {B : Int} (h : ∀ k, 0 ≤ rs.getD k 0 ∧ rs.getD k 0 ≤ B) (k : Nat) : 0 ≤ preT rs k ∧ preT rs k ≤ B * k := by
  induction k with
  | zero => simp [preT]
  | succ k ih =>
    have := h k
    simp only [preT]
    have e : B * ((k + 1 : Nat) : Int) = B * k + B := by rw [Int.natCast_succ, Int.mul_add, Int.mul_one]
    omega
theorem headI_bd {a b : List Int} {B : Int} (ha : ∀ k, 0 ≤ a.getD k 0 ∧ a.getD k 0 ≤ B) (hb : ∀ k, 0 ≤ b.getD k 0 ∧ b.getD k 0 ≤ B) (k : Nat) : 0 ≤ headI a b k ∧ headI a b k ≤ B * (k + 1 : Nat) := by
  induction k with
  | zero => have := ha 0; simp only [headI]; omega
  | succ k ih =>
    have h1 := preT_bd ha (k + 1)
    have h2 := preT_bd hb k
    simp only [headI]
    have e : B * ((k + 1 + 1 : Nat) : Int) = B * (k + 1 : Nat) + B := by rw [Int.natCast_succ, Int.mul_add, Int.mul_one]
    have := ha 0
    omega
/-- the least delay of event i, as the law counts it -/
def leastTo (l : List Q4) (late sp : List Int) (i : Nat) : Nat → Int
  | 0 => late.getD i 0
  | k + 1 => match l[k]? with
    | some q => if q.b = (i : Int) then max (leastTo l late sp i k) (sp.getD q.a.toNat 0 - (q.d - q.c)) else leastTo l late sp i k
    | none => leastTo l late sp i k
theorem inD_other (l : List Q4) (to : Nat) (out : List Int) {j : Nat} (h : j ≠ to) (k : Nat) : (inD l to out k).getD j 0 = out.getD j 0 := by
  induction k with
  | zero => rfl
  | succ k ih =>
    rw [inD]
    split
    · split
      · rw [List.getD_eq_getElem?_getD, List.getElem?_set_ne (by omega), ← List.getD_eq_getElem?_getD]; exact ih
      · exact ih
    · exact ih
theorem outD_later (l : List Q4) (late : List Int) (t : Nat) {j : Nat} (h : t ≤ j) : (outD l late t).getD j 0 = late.getD j 0 := by
  induction t with
  | zero => rfl
  | succ t ih => rw [outD, inD_other _ _ _ (by omega), ih (by omega)]
theorem outD_fixed (l : List Q4) (late : List Int) {j t : Nat} (h : j < t) : (outD l late t).getD j 0 = (outD l late (j + 1)).getD j 0 := by
  induction t with
  | zero => omega
  | succ t ih =>
    rcases Nat.lt_or_ge j t with h1 | h1
    · rw [outD, inD_other _ _ _ (by omega), ih h1]
    · obtain rfl : j = t := by omega
      rfl
theorem inD_least {l : List Q4} (hl : ∀ q ∈ l, 0 ≤ q.a ∧ q.a < q.b) {late out sp : List Int} {t : Nat} (ht : t < out.length) (h0 : out.getD t 0 = late.getD t 0) (hs : ∀ j, j < t → out.getD j 0 = sp.getD j 0) (k : Nat) :
    (inD l t out k).getD t 0 = leastTo l late sp t k := by
  induction k with
  | zero => exact h0
  | succ k ih =>
    rw [inD, leastTo]
    cases hq : l[k]? with
    | none => exact ih
    | some q =>
      have hm := hl q (List.mem_of_getElem? hq)
      simp only
      by_cases hb : q.b = (t : Int)
      · rw [if_pos hb, if_pos hb, List.getD_eq_getElem?_getD, List.getElem?_set_self (by rw [inD_len]; exact ht), Option.getD_some, ih, inD_other _ _ _ (by omega), hs _ (by omega)]
      · rw [if_neg hb, if_neg hb]; exact ih
theorem spread_least {l : List Q4} (hl : ∀ q ∈ l, 0 ≤ q.a ∧ q.a < q.b) {late : List Int} {i : Nat} (hi : i < late.length) : (outD l late late.length).getD i 0 = leastTo l late (outD l late late.length) i l.length := by
  rw [outD_fixed l late hi, outD]
  refine inD_least hl (by rw [outD_len]; exact hi) (outD_later l late i (Nat.le_refl _)) (fun j hj => ?_) _
  rw [outD_fixed l late hj, outD_fixed l late (show j < late.length by omega)]
end Go.Proofs.Ytnfgnlhpjhndfaa.Plain
