/- BlockTimes in plain numbers: trains, one behind the other. No program stands here. -/
import Derived.Test.YtfeehfmiicleaaaPlain
namespace Go.Proofs.Ytfeehfmiicleaaa.Plain

/-- when a train that begins at h comes behind the first k blocks, behind another one's times p -/
def atT (h : Int) (p : Nat → Int) (rs : List Int) : Nat → Int
  | 0 => h
  | k + 1 => max (atT h p rs k) (p k) + rs.getD k 0
/-- when train i - 1 comes behind block k -/
def aheadT (rs hs : List Int) : Nat → Nat → Int
  | 0, _ => 0
  | i + 1, k => atT (hs.getD i 0) (aheadT rs hs i) rs (k + 1)
def cellT (rs hs : List Int) (j : Nat) : Int := aheadT rs hs (j / rs.length + 1) (j % rs.length)
def timesT (rs hs : List Int) : List Int := (List.range (hs.length * rs.length)).map (cellT rs hs)

theorem all_getD {xs : List Int} {a b : Int} (h : xs.all (inR · a b) = true) (i : Nat) (hi : i < xs.length) : a ≤ xs.getD i 0 ∧ xs.getD i 0 ≤ b := by
  rw [List.getD_eq_getElem?_getD, List.getElem?_eq_getElem hi]
  exact inR_iff.1 (List.all_eq_true.1 h _ (List.getElem_mem hi))
theorem many_bd {xs : List Int} {f m a b : Int} (h : manyIn xs f m a b = true) : f ≤ xs.length ∧ (xs.length : Int) ≤ m ∧ xs.all (inR · a b) = true := by
  simpa only [manyIn, Bool.and_eq_true, decide_eq_true_eq] using h

theorem atT_bd {h : Int} {p : Nat → Int} {rs : List Int} {B : Int} (h0 : 0 ≤ h) (h1 : h ≤ B) (hp : ∀ k, k < rs.length → 0 ≤ p k ∧ p k ≤ B) (hr : rs.all (inR · 0 1000) = true) (k : Nat) (hk : k ≤ rs.length) :
    0 ≤ atT h p rs k ∧ atT h p rs k ≤ B + 1000 * k := by
  induction k with
  | zero => simp only [atT]; omega
  | succ k ih =>
    have := ih (by omega)
    have := hp k (by omega)
    have := all_getD hr k (by omega)
    simp only [atT]
    omega
theorem aheadT_bd {rs hs : List Int} (h1 : rs.all (inR · 0 1000) = true) (h2 : hs.all (inR · 0 100000) = true) (hr : rs.length ≤ 12) (i : Nat) (hi : i ≤ hs.length) (k : Nat) (hk : k < rs.length) :
    0 ≤ aheadT rs hs i k ∧ aheadT rs hs i k ≤ 100000 + 12000 * i := by
  induction i generalizing k with
  | zero => simp only [aheadT]; omega
  | succ i ih =>
    have hh := all_getD h2 i (by omega)
    have := atT_bd (h := hs.getD i 0) (p := aheadT rs hs i) (rs := rs) (B := 100000 + 12000 * i) hh.1 (by omega) (fun j hj => ih (by omega) j hj) h1 (k + 1) (by omega)
    simp only [aheadT]
    omega
/-- the first train meets nobody -/
theorem atT_zero {h : Int} {rs : List Int} (h0 : 0 ≤ h) (hr : rs.all (inR · 0 1000) = true) (k : Nat) (hk : k < rs.length) : atT h (fun _ => 0) rs (k + 1) = atT h (fun _ => 0) rs k + rs.getD k 0 := by
  have := atT_bd (h := h) (p := fun _ => 0) (rs := rs) (B := h) h0 (by omega) (fun _ _ => ⟨by omega, h0⟩) hr k (by omega)
  simp only [atT]
  omega
theorem cellT_at {rs hs : List Int} {i k : Nat} (hk : k < rs.length) : cellT rs hs (i * rs.length + k) = atT (hs.getD i 0) (aheadT rs hs i) rs (k + 1) := by
  have h1 : (i * rs.length + k) / rs.length = i := by rw [Nat.mul_comm, Nat.mul_add_div (by omega), Nat.div_eq_of_lt hk]; rfl
  have h2 : (i * rs.length + k) % rs.length = k := by rw [Nat.mul_comm, Nat.mul_add_mod, Nat.mod_eq_of_lt hk]
  rw [cellT, h1, h2, aheadT]
theorem cellT_prev {rs hs : List Int} {i k : Nat} (hk : k < rs.length) : cellT rs hs (i * rs.length + k) = aheadT rs hs (i + 1) k := by rw [cellT_at hk]; rfl
/-- the times ahead, the first k of them told anew by train i -/
def mixT (rs hs : List Int) (i k : Nat) : List Int := (List.range rs.length).map fun j => if j < k then aheadT rs hs (i + 1) j else aheadT rs hs i j
theorem mixT_len (rs hs : List Int) (i k : Nat) : (mixT rs hs i k).length = rs.length := by simp [mixT]
theorem mixT_get {rs hs : List Int} {i k j : Nat} (hj : j < rs.length) : (mixT rs hs i k)[j]? = some (if j < k then aheadT rs hs (i + 1) j else aheadT rs hs i j) := by simp [mixT, hj]
theorem mixT_set {rs hs : List Int} {i k : Nat} (hk : k < rs.length) : (mixT rs hs i k).set k (aheadT rs hs (i + 1) k) = mixT rs hs i (k + 1) := by
  apply List.ext_getElem?
  intro j
  rw [List.getElem?_set]
  by_cases hj : j < rs.length
  · rw [mixT_get hj, mixT_get hj, mixT_len]
    by_cases e : k = j
    · subst e; simp [hk]
    · rw [if_neg e]
      by_cases h : j < k
      · rw [if_pos h, if_pos (by omega)]
      · rw [if_neg h, if_neg (by omega)]
  · have h1 : (mixT rs hs i k)[j]? = none := List.getElem?_eq_none (by rw [mixT_len]; omega)
    have h2 : (mixT rs hs i (k + 1))[j]? = none := List.getElem?_eq_none (by rw [mixT_len]; omega)
    rw [h1, h2, if_neg (by omega)]
theorem mixT_next {rs hs : List Int} {i : Nat} : mixT rs hs i rs.length = mixT rs hs (i + 1) 0 := by
  apply List.ext_getElem?
  intro j
  by_cases hj : j < rs.length
  · rw [mixT_get hj, mixT_get hj, if_pos hj, if_neg (by omega)]
  · rw [List.getElem?_eq_none (by rw [mixT_len]; omega), List.getElem?_eq_none (by rw [mixT_len]; omega)]
theorem mixT_zero {rs hs : List Int} : mixT rs hs 0 0 = List.replicate rs.length 0 := by
  apply List.ext_getElem?
  intro j
  by_cases hj : j < rs.length
  · rw [mixT_get hj, if_neg (by omega)]; simp [hj, aheadT]
  · rw [List.getElem?_eq_none (by rw [mixT_len]; omega)]; simp [hj]
/-- the first m of the times -/
def partT (rs hs : List Int) (m : Nat) : List Int := (List.range m).map (cellT rs hs)
theorem partT_succ (rs hs : List Int) (m : Nat) : partT rs hs (m + 1) = partT rs hs m ++ [cellT rs hs m] := by simp [partT, List.range_succ]
theorem partT_len (rs hs : List Int) (m : Nat) : (partT rs hs m).length = m := by simp [partT]
theorem partT_get {rs hs : List Int} {m j : Nat} (h : j < m) : (partT rs hs m)[j]? = some (cellT rs hs j) := by simp [partT, h]
end Go.Proofs.Ytfeehfmiicleaaa.Plain
