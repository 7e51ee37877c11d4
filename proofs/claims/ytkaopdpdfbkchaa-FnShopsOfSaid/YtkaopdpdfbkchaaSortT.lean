/- An insertion sort by swaps, in plain lists. No program stands here. -/
import Derived.Test.YtkaopdpdfbkchaaPlain
namespace Go.Proofs.Ytkaopdpdfbkchaa.Plain
set_option linter.unusedVariables false
set_option linter.unusedSimpArgs false
/-- the numbers at j and j + 1 change places -/
def swapL (d : List Int) (j : Nat) : List Int := (d.set (j + 1) (d.getD j 0)).set j (d.getD (j + 1) 0)
def sinkL (K : Int → Int) : Nat → List Int → List Int
  | 0, d => d
  | j + 1, d => if K (d.getD (j + 1) 0) < K (d.getD j 0) then sinkL K j (swapL d j) else d
def sortL (K : Int → Int) (d : List Int) : Nat → List Int
  | 0 => d
  | i + 1 => sinkL K i (sortL K d i)
theorem swapL_len (d : List Int) (j : Nat) : (swapL d j).length = d.length := by simp [swapL]
theorem set_at (l : List Int) (k j : Nat) (x : Int) (hk : k < l.length) : (l.set k x).getD j 0 = if j = k then x else l.getD j 0 := by
  rw [List.getD_eq_getElem?_getD, List.getElem?_set]
  by_cases h : k = j
  · subst h; simp [hk]
  · rw [if_neg h, if_neg (fun e => h e.symm), List.getD_eq_getElem?_getD]
theorem swapL_get (d : List Int) {j : Nat} (h : j + 1 < d.length) (k : Nat) : (swapL d j).getD k 0 = if k = j then d.getD (j + 1) 0 else if k = j + 1 then d.getD j 0 else d.getD k 0 := by
  rw [swapL, set_at _ _ _ _ (by rw [List.length_set]; omega)]
  by_cases e1 : k = j
  · rw [if_pos e1, if_pos e1]
  · rw [if_neg e1, if_neg e1, set_at _ _ _ _ h]
/-- all are numbers below n -/
def inL (n : Nat) (d : List Int) : Prop := ∀ k, k < d.length → 0 ≤ d.getD k 0 ∧ d.getD k 0 < (n : Int)
theorem inL_swap {n : Nat} {d : List Int} (h : inL n d) {j : Nat} (hj : j + 1 < d.length) : inL n (swapL d j) := by
  intro k hk
  rw [swapL_len] at hk
  rw [swapL_get d hj]
  split
  · exact h _ hj
  · split
    · exact h _ (by omega)
    · exact h k hk
theorem sinkL_len (K : Int → Int) (j : Nat) : ∀ d : List Int, (sinkL K j d).length = d.length := by
  induction j with
  | zero => intro d; rfl
  | succ j ih => intro d; rw [sinkL]; split; rw [ih, swapL_len]; rfl
theorem sortL_len (K : Int → Int) (d : List Int) (i : Nat) : (sortL K d i).length = d.length := by
  induction i with
  | zero => rfl
  | succ i ih => rw [sortL, sinkL_len, ih]
theorem inL_sink (K : Int → Int) {n : Nat} (j : Nat) : ∀ d : List Int, inL n d → j < d.length → inL n (sinkL K j d) := by
  induction j with
  | zero => intro d h _; exact h
  | succ j ih =>
    intro d h hj
    rw [sinkL]
    split
    · exact ih _ (inL_swap h hj) (by rw [swapL_len]; omega)
    · exact h
theorem inL_sort (K : Int → Int) {n : Nat} {d : List Int} (h : inL n d) (i : Nat) (hi : i ≤ d.length) : inL n (sortL K d i) := by
  induction i with
  | zero => exact h
  | succ i ih => rw [sortL]; exact inL_sink K i _ (ih (by omega)) (by rw [sortL_len]; omega)
/-- in order up to i, but for the number at j, which is not above those behind it -/
def ordL (K : Int → Int) (d : List Int) (i : Nat) : Prop := ∀ a b, a < b → b < i → K (d.getD a 0) ≤ K (d.getD b 0)
theorem sinkL_ord (K : Int → Int) (i : Nat) (j : Nat) : ∀ d : List Int, j ≤ i → i < d.length → (∀ a b, a < b → b ≤ i → a ≠ j → b ≠ j → K (d.getD a 0) ≤ K (d.getD b 0)) → (∀ b, j < b → b ≤ i → K (d.getD j 0) ≤ K (d.getD b 0)) → ordL K (sinkL K j d) (i + 1) := by
  induction j with
  | zero =>
    intro d _ _ h1 h2 a b hab hb
    rw [sinkL]
    by_cases e : a = 0
    · subst e; exact h2 b hab (by omega)
    · exact h1 a b hab (by omega) e (by omega)
  | succ j ih =>
    intro d hj hi h1 h2
    rw [sinkL]
    by_cases hlt : K (d.getD (j + 1) 0) < K (d.getD j 0)
    · rw [if_pos hlt]
      have g := swapL_get d (j := j) (by omega)
      refine ih (swapL d j) (by omega) (by rw [swapL_len]; exact hi) (fun a b hab hb ha hb' => ?_) (fun b hjb hb => ?_)
      · rw [g a, g b, if_neg ha, if_neg hb']
        by_cases e1 : a = j + 1
        · rw [if_pos e1]
          by_cases e2 : b = j + 1
          · omega
          · rw [if_neg e2]; exact h1 j b (by omega) hb (by omega) e2
        · rw [if_neg e1]
          by_cases e2 : b = j + 1
          · rw [if_pos e2]; exact h1 a j (by omega) (by omega) (by omega) (by omega)
          · rw [if_neg e2]; exact h1 a b hab hb e1 e2
      · rw [g j, g b, if_pos rfl, if_neg (by omega)]
        by_cases e2 : b = j + 1
        · rw [if_pos e2]; omega
        · rw [if_neg e2]; exact h2 b (by omega) hb
    · rw [if_neg hlt]
      intro a b hab hb
      by_cases e1 : a = j + 1
      · subst e1; exact h2 b hab (by omega)
      · by_cases e2 : b = j + 1
        · subst e2
          by_cases e3 : a = j
          · subst e3; omega
          · have := h1 a j (by omega) (by omega) e1 (by omega); omega
        · exact h1 a b hab (by omega) e1 e2
theorem sortL_ord (K : Int → Int) (d : List Int) (i : Nat) (hi : i ≤ d.length) : ordL K (sortL K d i) i := by
  induction i with
  | zero => intro a b _ hb; omega
  | succ i ih =>
    rw [sortL]
    refine sinkL_ord K i i _ (Nat.le_refl _) (by rw [sortL_len]; omega) (fun a b hab hb ha hb' => ih (by omega) a b hab (by omega)) (fun b h1 h2 => by omega)
/-- no number stands twice -/
def oneL (d : List Int) : Prop := ∀ a b, a < d.length → b < d.length → d.getD a 0 = d.getD b 0 → a = b
theorem oneL_swap {d : List Int} (h : oneL d) {j : Nat} (hj : j + 1 < d.length) : oneL (swapL d j) := by
  intro a b ha hb e
  rw [swapL_len] at ha hb
  rw [swapL_get d hj, swapL_get d hj] at e
  by_cases a1 : a = j
  · rw [if_pos a1] at e
    by_cases b1 : b = j
    · omega
    · rw [if_neg b1] at e
      by_cases b2 : b = j + 1
      · rw [if_pos b2] at e; have := h _ _ hj (by omega) e; omega
      · rw [if_neg b2] at e; have := h _ _ hj hb e; omega
  · rw [if_neg a1] at e
    by_cases a2 : a = j + 1
    · rw [if_pos a2] at e
      by_cases b1 : b = j
      · rw [if_pos b1] at e; have := h _ _ (by omega) hj e; omega
      · rw [if_neg b1] at e
        by_cases b2 : b = j + 1
        · omega
        · rw [if_neg b2] at e; have := h _ _ (by omega) hb e; omega
    · rw [if_neg a2] at e
      by_cases b1 : b = j
      · rw [if_pos b1] at e; have := h _ _ ha hj e; omega
      · rw [if_neg b1] at e
        by_cases b2 : b = j + 1
        · rw [if_pos b2] at e; have := h _ _ ha (by omega) e; omega
        · rw [if_neg b2] at e; exact h _ _ ha hb e
theorem oneL_sink (K : Int → Int) (j : Nat) : ∀ d : List Int, oneL d → j < d.length → oneL (sinkL K j d) := by
  induction j with
  | zero => intro d h _; exact h
  | succ j ih =>
    intro d h hj
    rw [sinkL]
    split
    · exact ih _ (oneL_swap h hj) (by rw [swapL_len]; omega)
    · exact h
theorem oneL_sort (K : Int → Int) {d : List Int} (h : oneL d) (i : Nat) (hi : i ≤ d.length) : oneL (sortL K d i) := by
  induction i with
  | zero => exact h
  | succ i ih => rw [sortL]; exact oneL_sink K i _ (ih (by omega)) (by rw [sortL_len]; omega)
end Go.Proofs.Ytkaopdpdfbkchaa.Plain
