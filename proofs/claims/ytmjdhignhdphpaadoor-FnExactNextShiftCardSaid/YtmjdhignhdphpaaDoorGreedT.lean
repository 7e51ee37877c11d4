/- Covers by greed, in plain numbers. No program stands here. -/
import Derived.Test.YtmjdhignhdphpaaDoorListT
import Derived.Test.YtmjdhignhdphpaaDoorBlockT
import Derived.Test.YtmjdhignhdphpaaDoorMaxMin
namespace Go.Proofs.YtmjdhignhdphpaaDoor.Plain

/-- the first n numbers that a function tells -/
def lst (f : Nat → Int) (n : Nat) : List Int := (List.range n).map f
theorem lst_len (f : Nat → Int) (n : Nat) : (lst f n).length = n := by simp [lst]
theorem lst_get {f : Nat → Int} {n j : Nat} (h : j < n) : (lst f n)[j]? = some (f j) := by simp [lst, h]
theorem lst_none {f : Nat → Int} {n j : Nat} (h : n ≤ j) : (lst f n)[j]? = none := List.getElem?_eq_none (by rw [lst_len]; exact h)
theorem lst_congr {f g : Nat → Int} {n : Nat} (h : ∀ j, j < n → f j = g j) : lst f n = lst g n := by
  apply List.ext_getElem?
  intro j
  by_cases hj : j < n
  · rw [lst_get hj, lst_get hj, h j hj]
  · rw [lst_none (by omega), lst_none (by omega)]
theorem lst_set {f : Nat → Int} {n k : Nat} {v : Int} (g : Nat → Int) (hg : ∀ j, j < n → g j = if j = k then v else f j) : (lst f n).set k v = lst g n := by
  apply List.ext_getElem?
  intro j
  rw [List.getElem?_set, lst_len]
  by_cases hj : j < n
  · rw [lst_get hj, lst_get hj, hg j hj]
    by_cases e : k = j
    · subst e; simp [hj]
    · rw [if_neg e, if_neg (fun h => e h.symm)]
  · rw [lst_none (by omega), lst_none (by omega)]
    split
    · rename_i e; rw [if_neg (by omega)]
    · rfl
theorem lst_of (xs : List Int) : lst (fun j => xs.getD j 0) xs.length = xs := by
  apply List.ext_getElem?
  intro j
  by_cases hj : j < xs.length
  · rw [lst_get hj, List.getD_eq_getElem?_getD, List.getElem?_eq_getElem hj]; rfl
  · rw [lst_none (by omega), List.getElem?_eq_none (by omega)]
theorem lst_zero (n : Nat) : lst (fun _ => 0) n = List.replicate n 0 := by
  apply List.ext_getElem?
  intro j
  by_cases hj : j < n
  · rw [lst_get hj]; simp [hj]
  · rw [lst_none (by omega)]; simp [hj]

/-- the letters of a text as numbers -/
def cod (t : ByteArray) (k : Nat) : Int := ((t.data.toList.getD k 0).toNat : Int)
theorem cod_at {t : ByteArray} {k : Nat} (h : k < t.size) : cod t k = (t[k].toNat : Int) := by
  have h2 : k < t.data.toList.length := by simpa using h
  rw [cod, List.getD_eq_getElem?_getD, List.getElem?_eq_getElem h2]; rfl
def isW (t : ByteArray) (k : Nat) : Bool := decide (cod t k = 119)
theorem listS_size (L : ShiftLim) (m : Nat) : ∀ (s : ShiftPt) (t x : ByteArray), x ∈ listS L m s t → x.size = t.size + m := by
  induction m with
  | zero =>
    intro s t x h
    rw [listS] at h
    split at h
    · have := List.mem_singleton.1 h; subst this; rfl
    · cases h
  | succ m ih =>
    intro s t x h
    rw [listS, List.mem_append] at h
    rcases h with h | h
    · have := ih _ _ _ h
      rw [ByteArray.size_append] at this
      have e : (ByteArray.mk #[46]).size = 1 := rfl
      omega
    · split at h
      · have := ih _ _ _ h
        rw [ByteArray.size_append] at this
        have e : (ByteArray.mk #[119]).size = 1 := rfl
        omega
      · cases h
/-- how many slots that want somebody a shift works, of the first k -/
def gainT (t : ByteArray) (f : Nat → Int) : Nat → Nat
  | 0 => 0
  | k + 1 => gainT t f k + if (decide (0 < f k) && isW t k) then 1 else 0
theorem gain_le (t : ByteArray) (f : Nat → Int) (k : Nat) : gainT t f k ≤ k := by
  induction k with
  | zero => exact Nat.le_refl _
  | succ k ih => rw [gainT]; split <;> omega
/-- the best of the first i shifts: which one, and its gain -/
def bestT (ts : List ByteArray) (f : Nat → Int) (S : Nat) : Nat → Int × Nat
  | 0 => (-1, 0)
  | i + 1 => if (bestT ts f S i).2 < gainT (ts.getD i ⟨#[]⟩) f S then ((i : Int), gainT (ts.getD i ⟨#[]⟩) f S) else bestT ts f S i
theorem best_bd (ts : List ByteArray) (f : Nat → Int) (S i : Nat) : (bestT ts f S i).2 ≤ S ∧ -1 ≤ (bestT ts f S i).1 ∧ (bestT ts f S i).1 < i ∧ (0 ≤ (bestT ts f S i).1 → 0 < (bestT ts f S i).2 ∧ gainT (ts.getD (bestT ts f S i).1.toNat ⟨#[]⟩) f S = (bestT ts f S i).2) := by
  induction i with
  | zero => simp only [bestT]; omega
  | succ i ih =>
    rw [bestT]
    split
    · rename_i h
      have := gain_le (ts.getD i ⟨#[]⟩) f S
      refine ⟨this, by simp only; omega, by simp only; omega, fun _ => ⟨by simp only; omega, ?_⟩⟩
      simp
    · exact ⟨ih.1, ih.2.1, by have := ih.2.2.1; omega, ih.2.2.2⟩
/-- the program's wants behind the first k slots of a shift -/
def subF (t : ByteArray) (f : Nat → Int) (k : Nat) (j : Nat) : Int := if (decide (j < k) && isW t j) then f j - 1 else f j
/-- the reference's -/
def subG (t : ByteArray) (f : Nat → Int) (k : Nat) (j : Nat) : Int := if (decide (j < k) && (isW t j && decide (0 < f j))) then f j - 1 else f j
def posF (f : Nat → Int) (j : Nat) : Int := max (f j) 0
theorem sub_zero (t : ByteArray) (f : Nat → Int) : subF t f 0 = f := by funext j; simp [subF]
theorem subG_zero (t : ByteArray) (f : Nat → Int) : subG t f 0 = f := by funext j; simp [subG]
theorem pos_sub (t : ByteArray) (f : Nat → Int) (k : Nat) : posF (subF t f k) = subG t (posF f) k := by
  funext j
  simp only [posF, subF, subG]
  by_cases h1 : j < k
  · cases h2 : isW t j with
    | false => simp
    | true =>
      by_cases h3 : 0 < max (f j) 0
      · simp only [h1, h3, decide_true, Bool.true_and, if_true]; omega
      · simp only [h1, h3, decide_true, decide_false, Bool.true_and, Bool.false_eq_true, if_true, if_false]; omega
  · simp [h1]
theorem gain_pos (t : ByteArray) (f : Nat → Int) (k : Nat) : gainT t (posF f) k = gainT t f k := by
  induction k with
  | zero => rfl
  | succ k ih =>
    rw [gainT, gainT, ih]
    have : decide (0 < posF f k) = decide (0 < f k) := by congr 1; simp only [posF]; exact propext ⟨fun _ => by omega, fun _ => by omega⟩
    rw [this]
theorem best_pos (ts : List ByteArray) (f : Nat → Int) (S i : Nat) : bestT ts (posF f) S i = bestT ts f S i := by
  induction i with
  | zero => rfl
  | succ i ih => rw [bestT, bestT, ih, gain_pos]
/-- all that is wanted in the first k slots -/
def sumF (f : Nat → Int) : Nat → Int
  | 0 => 0
  | k + 1 => sumF f k + max (f k) 0
theorem sum_nonneg (f : Nat → Int) (k : Nat) : 0 ≤ sumF f k := by
  induction k with
  | zero => exact Int.le_refl _
  | succ k ih => rw [sumF]; omega
theorem sum_pos (f : Nat → Int) (k : Nat) : sumF (posF f) k = sumF f k := by
  induction k with
  | zero => rfl
  | succ k ih => rw [sumF, sumF, ih]; simp only [posF]; omega
theorem sum_le {f : Nat → Int} {B : Int} (hB : 0 ≤ B) (k : Nat) (h : ∀ j, j < k → f j ≤ B) : sumF f k ≤ B * k := by
  induction k with
  | zero => simp [sumF]
  | succ k ih =>
    have := ih (fun j hj => h j (by omega))
    have := h k (by omega)
    rw [sumF]
    push_cast
    rw [Int.mul_add]
    omega
theorem sum_subk (t : ByteArray) (f : Nat → Int) (K : Nat) (k : Nat) (hk : k ≤ K) : sumF (subF t f K) k = sumF f k - gainT t f k := by
  induction k with
  | zero => rfl
  | succ k ih =>
    rw [sumF, sumF, ih (by omega), gainT]
    have : subF t f K k = if isW t k then f k - 1 else f k := by simp [subF, show k < K by omega]
    rw [this]
    cases isW t k <;> simp only [Bool.and_true, Bool.and_false, Bool.false_eq_true, if_false, if_true, decide_eq_true_eq]
    · omega
    · split <;> omega
theorem sum_iff {f : Nat → Int} (S : Nat) : 0 < sumF f S ↔ ∃ j, j < S ∧ 0 < f j := by
  induction S with
  | zero => simp [sumF]
  | succ k ih =>
    rw [sumF]
    have h0 := sum_nonneg f k
    constructor
    · intro h
      by_cases h1 : 0 < sumF f k
      · obtain ⟨j, hj, h2⟩ := ih.1 h1; exact ⟨j, by omega, h2⟩
      · exact ⟨k, by omega, by omega⟩
    · rintro ⟨j, hj, h2⟩
      by_cases e : j = k
      · subst e; omega
      · have := ih.2 ⟨j, by omega, h2⟩; omega
def addF (b : Nat) (c : Nat → Int) (j : Nat) : Int := if j = b then c j + 1 else c j
/-- how often each shift is taken, with so many tries; none: nobody can be taken -/
def greedyF (ts : List ByteArray) (S : Nat) : Nat → (Nat → Int) → (Nat → Int) → Option (Nat → Int)
  | 0, _, _ => none
  | n + 1, c, f => if sumF f S ≤ 0 then some c else if (bestT ts f S ts.length).1 < 0 then none else greedyF ts S n (addF (bestT ts f S ts.length).1.toNat c) (subF (ts.getD (bestT ts f S ts.length).1.toNat ⟨#[]⟩) f S)
/-- what is known behind n takings -/
structure GB (S : Nat) (n : Nat) (c f : Nat → Int) : Prop where
  c0 : ∀ j, 0 ≤ c j ∧ c j ≤ n
  f0 : ∀ j, j < S → -(n : Int) ≤ f j ∧ f j ≤ 100
  s0 : n + sumF f S ≤ 2400
theorem gb_start {S : Nat} {f : Nat → Int} (h : ∀ j, j < S → 0 ≤ f j ∧ f j ≤ 100) (hS : S ≤ 24) : GB S 0 (fun _ => 0) f := by
  refine ⟨fun j => ⟨Int.le_refl _, by omega⟩, fun j hj => by have := h j hj; omega, ?_⟩
  have := sum_le (f := f) (B := 100) (by omega) S (fun j hj => (h j hj).2)
  omega
theorem gb_step {ts : List ByteArray} {S n b : Nat} {c f : Nat → Int} (h : GB S n c f) (hb : (bestT ts f S ts.length).1 = (b : Int)) : GB S (n + 1) (addF b c) (subF (ts.getD b ⟨#[]⟩) f S) ∧ sumF (subF (ts.getD b ⟨#[]⟩) f S) S < sumF f S := by
  obtain ⟨h1, h2, h3, h4⟩ := best_bd ts f S ts.length
  have h5 := h4 (by omega)
  have e : (bestT ts f S ts.length).1.toNat = b := by omega
  rw [e] at h5
  have hs := sum_subk (ts.getD b ⟨#[]⟩) f S S (Nat.le_refl _)
  refine ⟨⟨fun j => ?_, fun j hj => ?_, ?_⟩, by omega⟩
  · have := h.c0 j
    simp only [addF]
    split <;> omega
  · have := h.f0 j hj
    simp only [subF]
    split <;> omega
  · have := h.s0
    omega
/-- the shifts that are taken, of the first i -/
def selS (ts : List ByteArray) (c : Nat → Int) : Nat → List ByteArray
  | 0 => []
  | i + 1 => selS ts c i ++ if 0 < c i then [ts.getD i ⟨#[]⟩] else []
/-- how often -/
def selC (c : Nat → Int) : Nat → List Int
  | 0 => []
  | i + 1 => selC c i ++ if 0 < c i then [c i] else []
theorem sel_len (ts : List ByteArray) (c : Nat → Int) (i : Nat) : (selS ts c i).length = (selC c i).length ∧ (selC c i).length ≤ i := by
  induction i with
  | zero => simp [selS, selC]
  | succ i ih => rw [selS, selC]; split <;> simp <;> omega
theorem greedy_done {ts : List ByteArray} {S n : Nat} {c f : Nat → Int} (h : sumF f S < n) (h0 : sumF f S ≤ 0) : greedyF ts S n c f = some c := by
  have := sum_nonneg f S
  obtain ⟨m, rfl⟩ : ∃ m, n = m + 1 := ⟨n - 1, by omega⟩
  rw [greedyF, if_pos h0]
theorem greedy_none {ts : List ByteArray} {S n : Nat} {c f : Nat → Int} (h0 : ¬ sumF f S ≤ 0) (hb : (bestT ts f S ts.length).1 < 0) : greedyF ts S n c f = none := by
  cases n with
  | zero => rfl
  | succ m => rw [greedyF, if_neg h0, if_pos hb]
theorem greedy_step {ts : List ByteArray} {S n b : Nat} {c f : Nat → Int} (h : sumF f S < n) (h0 : ¬ sumF f S ≤ 0) (hb : (bestT ts f S ts.length).1 = (b : Int)) : ∃ m : Nat, n = m + 1 ∧ greedyF ts S n c f = greedyF ts S m (addF b c) (subF (ts.getD b ⟨#[]⟩) f S) := by
  obtain ⟨m, rfl⟩ : ∃ m, n = m + 1 := ⟨n - 1, by omega⟩
  refine ⟨m, rfl, ?_⟩
  rw [greedyF, if_neg h0, if_neg (by omega), hb]
  rfl
end Go.Proofs.YtmjdhignhdphpaaDoor.Plain
