/- Ways from first tasks to last ones: what both sides hold. No program stands here but the rows' form. -/
import Derived.Test.YtaeajjfdljpioaaProG
namespace Go.Proofs.Ytaeajjfdljpioaa
open Go.RowKit Plain
set_option linter.unusedVariables false
set_option linter.unusedSimpArgs false
/-- the list while task i is told -/
def waysI (ts : List TK) (n i k : Nat) : List Int := (waysL ts n i).set i (waysF ts (fun j => (waysL ts n i).getD j 0) i k)
theorem waysL_none (ts : List TK) (n i : Nat) (hi : i < n) : (waysL ts n i).getD i 0 = 0 := by
  have key : ∀ m, m ≤ i → (waysL ts n m).getD i 0 = 0 := by
    intro m
    induction m with
    | zero => intro _; rw [waysL, List.getD_eq_getElem?_getD, List.getElem?_replicate]; split <;> rfl
    | succ m ih => intro hm; rw [waysL, set_at _ _ _ _ (by rw [waysL_len]; omega), if_neg (by omega), ih (by omega)]
  exact key i (Nat.le_refl _)
theorem waysI_some (ts : List TK) (n i : Nat) (hi : i < n) (h : (tkAt ts i).bf.length ≠ 0) : waysI ts n i 0 = waysL ts n i := by
  rw [waysI, waysF, if_neg h]
  refine List.ext_getElem? fun j => ?_
  rw [List.getElem?_set]
  by_cases e : i = j
  · subst e
    have h0 := waysL_none ts n i hi
    rw [List.getD_eq_getElem?_getD, List.getElem?_eq_getElem (by rw [waysL_len]; exact hi)] at h0
    rw [if_pos rfl, if_pos (by rw [waysL_len]; exact hi), List.getElem?_eq_getElem (by rw [waysL_len]; exact hi)]
    simp only [Option.getD_some] at h0
    rw [h0]
  · rw [if_neg e]
theorem waysI_none (ts : List TK) (n i : Nat) (h : (tkAt ts i).bf.length = 0) : (waysL ts n i).set i 1 = waysI ts n i 0 := by rw [waysI, waysF, if_pos h]
theorem waysI_at (ts : List TK) (n i k : Nat) (hi : i < n) (j : Nat) : (waysI ts n i k).getD j 0 = if j = i then waysF ts (fun j => (waysL ts n i).getD j 0) i k else (waysL ts n i).getD j 0 := by
  rw [waysI, set_at _ _ _ _ (by rw [waysL_len]; exact hi)]
theorem waysI_step (ts : List TK) (n i k : Nat) (x : Int) (hx : x = waysF ts (fun j => (waysL ts n i).getD j 0) i (k + 1)) : (waysI ts n i k).set i x = waysI ts n i (k + 1) := by
  rw [waysI, waysI, List.set_set, hx]
theorem waysI_bd {ts : List TK} {n i k : Nat} (h : TasksOk ts n) (n9 : n ≤ 9) (hi : i < n) (hk : k ≤ (tkAt ts i).bf.length) : 0 ≤ waysF ts (fun j => (waysL ts n i).getD j 0) i k ∧ waysF ts (fun j => (waysL ts n i).getD j 0) i k ≤ 5000000000 := by
  have p9 : ∀ j : Nat, (1 : Int) ≤ 9 ^ j := fun j => by
    induction j with
    | zero => decide
    | succ j ih => rw [Int.pow_succ]; omega
  have up9 : ∀ a b : Nat, a ≤ b → (9 : Int) ^ a ≤ 9 ^ b := fun a b hab => by
    induction b with
    | zero => rw [show a = 0 by omega]; exact Int.le_refl _
    | succ b ih =>
      by_cases e : a = b + 1
      · rw [e]; exact Int.le_refl _
      · have := ih (by omega); have := p9 b; rw [Int.pow_succ]; omega
  have a := waysF_bd h (ws := fun j => (waysL ts n i).getD j 0) hi n9 (9 ^ 9) (fun j hj => by
    have a := ways_bd h n9 i (by omega) j
    have b := up9 j 9 (by omega)
    exact ⟨a.1, by omega⟩) k hk
  have hs := (h i hi).short
  have e9 : (9 : Int) ^ 9 = 387420489 := by decide
  rw [e9] at a
  omega
theorem ways_big {ts : List TK} {n : Nat} (h : TasksOk ts n) (n9 : n ≤ 9) (i : Nat) (hi : i ≤ n) (j : Nat) (hj : j < n) : 0 ≤ (waysL ts n i).getD j 0 ∧ (waysL ts n i).getD j 0 ≤ 43046721 := by
  have a := ways_bd h n9 i hi j
  have e : ∀ j : Nat, j < 9 → (9 : Int) ^ j ≤ 43046721 := by decide
  have := e j (by omega)
  omega
/-- every task has a way to it -/
theorem waysF_pos {ts : List TK} {n : Nat} (h : TasksOk ts n) {ws : Nat → Int} {i : Nat} (hi : i < n) (hw : ∀ j, j < i → 1 ≤ ws j) : 1 ≤ waysF ts ws i (tkAt ts i).bf.length := by
  by_cases e : (tkAt ts i).bf.length = 0
  · rw [e, waysF, if_pos e]; exact Int.le_refl _
  · have key : ∀ k, k ≤ (tkAt ts i).bf.length → 0 ≤ waysF ts ws i k ∧ (1 ≤ k → 1 ≤ waysF ts ws i k) := by
      intro k
      induction k with
      | zero => intro _; rw [waysF, if_neg e]; exact ⟨Int.le_refl _, fun h => by omega⟩
      | succ k ih =>
        intro hk
        have a := ih (by omega)
        have b := hw _ ((h i hi).lt (show k < (tkAt ts i).bf.length by omega))
        rw [waysF]
        exact ⟨by omega, fun _ => by omega⟩
    exact (key _ (Nat.le_refl _)).2 (by omega)
theorem ways_pos {ts : List TK} {n : Nat} (h : TasksOk ts n) (i : Nat) (hi : i ≤ n) (j : Nat) (hj : j < i) : 1 ≤ (waysL ts n i).getD j 0 := by
  induction i generalizing j with
  | zero => omega
  | succ i ih =>
    rw [waysL, set_at _ _ _ _ (by rw [waysL_len]; omega)]
    split
    · rename_i e; subst e
      exact waysF_pos h (by omega) (fun k hk => ih (by omega) k hk)
    · exact ih (by omega) j (by omega)
/-- is a task before none of the first i, nor of the first k before task i? -/
def endP (ts : List TK) (n i k j : Nat) : Bool := endB ts n i j && (List.range k).all fun x => !(bN (tkAt ts i) x == j)
def endL (ts : List TK) (n i k : Nat) : List Bool := (List.range n).map (endP ts n i k)
theorem endL_at (ts : List TK) (n i k : Nat) {j : Nat} (hj : j < n) (d : Bool) : (endL ts n i k).getD j d = endP ts n i k j := by
  rw [endL, List.getD_eq_getElem?_getD, List.getElem?_map, List.getElem?_range hj]; rfl
theorem endL_zero (ts : List TK) (n : Nat) : endL ts n 0 0 = List.replicate n true := by
  refine List.ext_getElem (by simp [endL]) fun j h1 h2 => ?_
  simp [endL, endP, endB]
theorem endP_next (ts : List TK) (n i j : Nat) : endP ts n i (tkAt ts i).bf.length j = endP ts n (i + 1) 0 j := by
  simp [endP, endB, List.range_succ]
theorem endL_next (ts : List TK) (n i : Nat) : endL ts n i (tkAt ts i).bf.length = endL ts n (i + 1) 0 := by
  rw [endL, endL]
  exact List.map_congr_left fun j _ => endP_next ts n i j
theorem endP_step (ts : List TK) (n i k j : Nat) : endP ts n i (k + 1) j = if bN (tkAt ts i) k = j then false else endP ts n i k j := by
  rw [endP, endP, List.range_succ, List.all_append, ← Bool.and_assoc]
  by_cases e : bN (tkAt ts i) k = j
  · simp [e]
  · simp [e]
theorem endL_step (ts : List TK) (n i k : Nat) : (endL ts n i k).set (bN (tkAt ts i) k) false = endL ts n i (k + 1) := by
  refine List.ext_getElem (by simp [endL]) fun j h1 h2 => ?_
  rw [List.getElem_set]
  simp only [endL, List.getElem_map, List.getElem_range]
  rw [endP_step]
/-- the other side's list: inner tasks -/
def innL (ts : List TK) (n i k : Nat) : List Bool := (List.range n).map fun j => !endP ts n i k j
theorem innL_at (ts : List TK) (n i k : Nat) {j : Nat} (hj : j < n) (d : Bool) : (innL ts n i k).getD j d = !endP ts n i k j := by
  rw [innL, List.getD_eq_getElem?_getD, List.getElem?_map, List.getElem?_range hj]; rfl
theorem innL_zero (ts : List TK) (n : Nat) : innL ts n 0 0 = List.replicate n false := by
  refine List.ext_getElem (by simp [innL]) fun j h1 h2 => ?_
  simp [innL, endP, endB]
theorem innL_next (ts : List TK) (n i : Nat) : innL ts n i (tkAt ts i).bf.length = innL ts n (i + 1) 0 := by
  rw [innL, innL]
  exact List.map_congr_left fun j _ => by rw [endP_next]
theorem innL_step (ts : List TK) (n i k : Nat) : (innL ts n i k).set (bN (tkAt ts i) k) true = innL ts n i (k + 1) := by
  refine List.ext_getElem (by simp [innL]) fun j h1 h2 => ?_
  rw [List.getElem_set]
  simp only [innL, List.getElem_map, List.getElem_range]
  rw [endP_step]
  split <;> simp
/-- the ways in all -/
def waysN (ts : List TK) (n : Nat) : Int := sumW (fun j => (waysL ts n n).getD j 0) (endP ts n n 0) n
theorem sumW_ge {ws : Nat → Int} {en : Nat → Bool} {j : Nat} (n : Nat) (h : ∀ j, j < n → 0 ≤ ws j) (hj : j < n) (he : en j = true) : ws j ≤ sumW ws en n := by
  have z : ∀ m, m ≤ n → 0 ≤ sumW ws en m := by
    intro m
    induction m with
    | zero => intro _; exact Int.le_refl _
    | succ m ih => intro hm; have a := ih (by omega); have b := h m (by omega); rw [sumW]; split <;> omega
  have key : ∀ m, j < m → m ≤ n → ws j ≤ sumW ws en m := by
    intro m
    induction m with
    | zero => omega
    | succ m ih =>
      intro h1 h2
      rw [sumW]
      by_cases e : j = m
      · subst e; rw [if_pos he]; have := z j (by omega); omega
      · have a := ih (by omega) (by omega)
        have b := h m (by omega)
        split <;> omega
  exact key n hj (Nat.le_refl _)
theorem waysN_pos {ts : List TK} {n : Nat} (h : TasksOk ts n) (n1 : 1 ≤ n) (n9 : n ≤ 9) : 1 ≤ waysN ts n := by
  have a := ways_pos h n (Nat.le_refl _) (n - 1) (by omega)
  have he : endP ts n n 0 (n - 1) = true := by
    rw [endP, endB]
    simp only [List.range_zero, List.all_nil, Bool.and_true, List.all_eq_true, List.mem_range]
    intro x hx k hk
    have := (h x hx).lt hk
    simp; omega
  have b := sumW_ge (ws := fun j => (waysL ts n n).getD j 0) (en := endP ts n n 0) (j := n - 1) n (fun j hj => (ways_big h n9 n (Nat.le_refl _) j hj).1) (by omega) he
  rw [waysN]
  omega
end Go.Proofs.Ytaeajjfdljpioaa
