/- Plain facts on lists and numbers; no program stands here. -/
namespace Go.Proofs.Ytkaopdpdfbkchaa.Plain

theorem fill_step {α : Type} (xs : List α) (z : α) (k : Nat) (hk : k < xs.length) :
    (xs.take k ++ List.replicate (xs.length - k) z).set k xs[k] = xs.take (k + 1) ++ List.replicate (xs.length - (k + 1)) z := by
  apply List.ext_getElem?
  intro j
  simp only [List.getElem?_set, List.getElem?_append, List.length_take, List.getElem?_take, List.getElem?_replicate, List.length_append, List.length_replicate]
  rcases Nat.lt_trichotomy j k with h | h | h
  · simp [show ¬ k = j by omega, show j < min k xs.length by omega, show j < min (k + 1) xs.length by omega, h, show j < k + 1 by omega]
  · subst h; simp [hk, show j < min (j + 1) xs.length by omega, show j < min j xs.length + (xs.length - j) by omega]
  · simp [show ¬ k = j by omega, show ¬ j < min k xs.length by omega, show ¬ j < min (k + 1) xs.length by omega]
    by_cases hj : j < xs.length
    · simp [show j - min k xs.length < xs.length - k by omega, show j - min (k + 1) xs.length < xs.length - (k + 1) by omega]
    · simp [show ¬ j - min k xs.length < xs.length - k by omega, show ¬ j - min (k + 1) xs.length < xs.length - (k + 1) by omega]

/-- the marks k, k + 1, .. -/
def marks (n : Nat) (k : Int) : List Int := (List.range n).map fun (i : Nat) => k + (i : Int)
theorem marks_len (n : Nat) (k : Int) : (marks n k).length = n := by simp [marks]
theorem marks_get (n : Nat) (k : Int) (i : Nat) (h : i < n) : (marks n k)[i]? = some (k + i) := by simp [marks, h]

theorem mark_step {α : Type} (f : Nat → α) (xs : List α) (n k : Nat) (hn : xs.length = n) (hk : k < n) :
    ((List.range k).map f ++ xs.drop k).set k (f k) = (List.range (k + 1)).map f ++ xs.drop (k + 1) := by
  apply List.ext_getElem?
  intro j
  simp only [List.getElem?_set, List.getElem?_append, List.length_map, List.length_range, List.length_append, List.length_drop, List.getElem?_map, List.getElem?_drop]
  rcases Nat.lt_trichotomy j k with h | h | h
  · simp [show ¬ k = j by omega, h, show j < k + 1 by omega]
  · subst h; simp [show j < j + (xs.length - j) by omega]
  · simp [show ¬ k = j by omega, show ¬ j < k by omega, show ¬ j < k + 1 by omega, show k + (j - k) = j by omega, show k + 1 + (j - (k + 1)) = j by omega]

theorem take_succ_eq {xs ys : List Int} {k : Nat} (h : xs.take k = ys.take k) (hk : k < xs.length) (hk' : k < ys.length) (he : xs[k]?.getD 0 = ys[k]?.getD 0) : xs.take (k + 1) = ys.take (k + 1) := by
  rw [List.take_add_one, List.take_add_one, h]
  simp only [hk, hk', List.getElem?_eq_getElem, Option.getD_some] at he ⊢
  rw [he]
theorem ne_of_getD {xs ys : List Int} {k : Nat} (he : ¬ xs[k]?.getD 0 = ys[k]?.getD 0) : ¬ xs = ys := by
  rintro rfl
  exact he rfl
theorem take_succ_of {α : Type} {xs ys : List α} {k : Nat} {q : α} (h : xs.take k = ys.take k) (hx : xs[k]? = some q) (hy : ys[k]? = some q) : xs.take (k + 1) = ys.take (k + 1) := by
  rw [List.take_add_one, List.take_add_one, h, hx, hy]
theorem ne_of_get {α : Type} {xs ys : List α} {k : Nat} {q r : α} (hx : xs[k]? = some q) (hy : ys[k]? = some r) (h : ¬ q = r) : ¬ xs = ys := by
  rintro rfl
  exact h (Option.some.inj (hx.symm.trans hy))
theorem map_take_snoc {α β : Type} (f : α → β) (xs : List α) (k : Nat) (hk : k < xs.length) : (xs.take k).map f ++ [f xs[k]] = (xs.take (k + 1)).map f := by
  rw [List.take_succ_eq_append_getElem hk, List.map_append]; rfl
theorem eq_of_take {α : Type} {xs ys : List α} {k : Nat} (h : xs.take k = ys.take k) (hx : xs.length = k) (hy : ys.length = k) : xs = ys := by
  rw [List.take_of_length_le (by omega), List.take_of_length_le (by omega)] at h
  exact h
theorem all_take_succ {α : Type} {p : α → Bool} {xs : List α} {k : Nat} (h : (xs.take k).all p = true) (hk : k < xs.length) (hp : p xs[k] = true) : (xs.take (k + 1)).all p = true := by
  rw [List.take_succ_eq_append_getElem hk, List.all_append, h]
  simp [hp]
theorem all_false {α : Type} {p : α → Bool} {xs : List α} {k : Nat} (hk : k < xs.length) (hp : p xs[k] = false) : xs.all p = false := by
  rw [List.all_eq_false]
  exact ⟨xs[k], List.getElem_mem _, by simp [hp]⟩
theorem all_whole {α : Type} {p : α → Bool} {xs : List α} {k : Nat} (h : (xs.take k).all p = true) (hk : xs.length ≤ k) : xs.all p = true := by
  rwa [List.take_of_length_le hk] at h
theorem all_false_of {α : Type} {p : α → Bool} {xs : List α} {k : Nat} {q : α} (hk : xs[k]? = some q) (hp : p q = false) : xs.all p = false := by
  rw [List.all_eq_false]
  exact ⟨q, List.mem_of_getElem? hk, by simp [hp]⟩
theorem all_take_of {α : Type} {p : α → Bool} {xs : List α} {k : Nat} {q : α} (h : (xs.take k).all p = true) (hk : xs[k]? = some q) (hp : p q = true) : (xs.take (k + 1)).all p = true := by
  rw [List.take_add_one, hk, List.all_append, h]
  simp [hp]
theorem getD_of {xs : List Int} {k : Nat} (hk : k < xs.length) : xs[k]?.getD 0 = xs[k] := by simp [hk]

theorem bne_t {a b : Int} (h : (a != b) = true) : ¬ a = b := bne_iff_ne.1 h
theorem bne_f {a b : Int} (h : (a != b) = false) : a = b := bne_eq_false_iff_eq.1 h
/-- a ≤ n ≤ b -/
def inR (n a b : Int) : Bool := decide (a ≤ n) && decide (n ≤ b)
theorem inR_iff {n a b : Int} : inR n a b = true ↔ a ≤ n ∧ n ≤ b := by simp [inR]
theorem inR_no {n a b : Int} : inR n a b = false ↔ n < a ∨ b < n := by simp [inR]; omega
/-- all numbers of a list are in a range, and there are from few to many of them -/
def manyIn (xs : List Int) (few many : Int) (a b : Int) : Bool := decide (few ≤ xs.length) && (decide ((xs.length : Int) ≤ many) && xs.all (inR · a b))
end Go.Proofs.Ytkaopdpdfbkchaa.Plain
