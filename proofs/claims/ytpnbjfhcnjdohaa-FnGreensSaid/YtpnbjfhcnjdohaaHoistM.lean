/- The least period of a hoist, in plain numbers. No program stands here. -/
import Derived.Test.YtpnbjfhcnjdohaaPlain
import Derived.Test.YtpnbjfhcnjdohaaHoistT
namespace Go.Proofs.Ytpnbjfhcnjdohaa.Plain

/-- when move i begins -/
def stH (so mv : List Int) : Nat → Nat
  | 0 => 0
  | i + 1 => stH so mv i + (mv.getD i 0).toNat + (so.getD i 0).toNat
def mvH (mv : List Int) (i : Nat) : Nat := (mv.getD i 0).toNat
/-- is a period long enough? -/
def okH (so mv : List Int) (P : Nat) : Bool := so.all (fun x => decide (x ≤ (P : Int))) && (allSt P (stH so mv) (mvH mv) (so.length + 1)).isSome
/-- the first number from 1 to n that will do -/
def firstH (ok : Nat → Bool) : Nat → Nat × Bool
  | 0 => (0, false)
  | n + 1 => match firstH ok n with
    | (r, true) => (r, true)
    | (_, false) => if ok (n + 1) then (n + 1, true) else (0, false)
theorem firstH_none {ok : Nat → Bool} {n : Nat} (h : ∀ q, 1 ≤ q → q ≤ n → ok q = false) : firstH ok n = (0, false) := by
  induction n with
  | zero => rfl
  | succ n ih => rw [firstH, ih (fun q h1 h2 => h q h1 (by omega))]; simp [h (n + 1) (by omega) (by omega)]
theorem firstH_stay {ok : Nat → Bool} {n m : Nat} {r : Nat} (h : firstH ok n = (r, true)) (hm : n ≤ m) : firstH ok m = (r, true) := by
  induction m with
  | zero => have : n = 0 := by omega
            subst this; exact h
  | succ m ih =>
    by_cases e : n = m + 1
    · subst e; exact h
    · rw [firstH, ih (by omega)]
theorem firstH_some {ok : Nat → Bool} {n p : Nat} (h : ∀ q, 1 ≤ q → q < p → ok q = false) (hp : ok p = true) (h1 : 1 ≤ p) (h2 : p ≤ n) : firstH ok n = (p, true) := by
  refine firstH_stay (n := p) ?_ h2
  obtain ⟨q, rfl⟩ : ∃ q, p = q + 1 := ⟨p - 1, by omega⟩
  rw [firstH, firstH_none (fun x h3 h4 => h x h3 (by omega))]
  simp [hp]
def condH (so mv : List Int) (most : Int) : Bool := manyIn so 1 12 0 1000 && (decide (mv.length = so.length + 1) && (mv.all (inR · 1 100) && inR most 1 10000))
def MH (so mv : List Int) (most : Int) : Int × Bool := if condH so mv most then (((firstH (okH so mv) most.toNat).1 : Nat), (firstH (okH so mv) most.toNat).2) else (0, false)
theorem stH_bd {so mv : List Int} (h1 : so.all (inR · 0 1000) = true) (h2 : mv.all (inR · 1 100) = true) (hl : mv.length = so.length + 1) (i : Nat) (hi : i ≤ so.length) : stH so mv i ≤ 1100 * i := by
  induction i with
  | zero => simp [stH]
  | succ i ih =>
    have a : (so.getD i 0) ≤ 1000 := by
      rw [List.getD_eq_getElem?_getD, List.getElem?_eq_getElem (by omega)]
      exact (inR_iff.1 (List.all_eq_true.1 h1 _ (List.getElem_mem (by omega)))).2
    have b : (mv.getD i 0) ≤ 100 := by
      rw [List.getD_eq_getElem?_getD, List.getElem?_eq_getElem (by omega)]
      exact (inR_iff.1 (List.all_eq_true.1 h2 _ (List.getElem_mem (by omega)))).2
    have := ih (by omega)
    rw [stH]
    omega
theorem mvH_bd {mv : List Int} (h2 : mv.all (inR · 1 100) = true) (i : Nat) (hi : i < mv.length) : 1 ≤ mvH mv i ∧ mvH mv i ≤ 100 ∧ mv.getD i 0 = (mvH mv i : Int) := by
  have b : 1 ≤ (mv.getD i 0) ∧ (mv.getD i 0) ≤ 100 := by
    rw [List.getD_eq_getElem?_getD, List.getElem?_eq_getElem (by omega)]
    exact inR_iff.1 (List.all_eq_true.1 h2 _ (List.getElem_mem (by omega)))
  unfold mvH
  omega
theorem soH_bd {so : List Int} (h1 : so.all (inR · 0 1000) = true) (i : Nat) (hi : i < so.length) : 0 ≤ so.getD i 0 ∧ so.getD i 0 ≤ 1000 := by
  rw [List.getD_eq_getElem?_getD, List.getElem?_eq_getElem hi]
  exact inR_iff.1 (List.all_eq_true.1 h1 _ (List.getElem_mem hi))
end Go.Proofs.Ytpnbjfhcnjdohaa.Plain
