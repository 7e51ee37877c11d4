/- Cuts of tasks in lexical order, as digits of a number. No program stands here. -/
import Derived.Test.YtdbojkanelmlkaaPlain
import Derived.Test.YtdbojkanelmlkaaSortT
namespace Go.Proofs.Ytdbojkanelmlkaa.Plain
set_option linter.unusedVariables false
set_option linter.unusedSimpArgs false
/-- how many vectors there are, the digits' limits the last one first -/
def prodR : List Nat → Nat
  | [] => 1
  | l :: ls => (l + 1) * prodR ls
theorem prodR_pos (ls : List Nat) : 0 < prodR ls := by
  induction ls with
  | nil => exact Nat.one_pos
  | cons l ls ih => exact Nat.mul_pos (Nat.succ_pos l) ih
/-- the digits of t, the last one first -/
def digsR : List Nat → Nat → List Nat
  | [], _ => []
  | l :: ls, t => t % (l + 1) :: digsR ls (t / (l + 1))
theorem digsR_len (ls : List Nat) (t : Nat) : (digsR ls t).length = ls.length := by
  induction ls generalizing t with
  | nil => rfl
  | cons l ls ih => simp [digsR, ih]
/-- one more, the last digit first; whether there is one -/
def incR : List Nat → List Nat → List Nat × Bool
  | l :: ls, d :: ds => if d + 1 ≤ l then ((d + 1) :: ds, true) else (0 :: (incR ls ds).1, (incR ls ds).2)
  | _, _ => ([], false)
theorem incR_next (ls : List Nat) (t : Nat) (h : t + 1 < prodR ls) : incR ls (digsR ls t) = (digsR ls (t + 1), true) := by
  induction ls generalizing t with
  | nil => simp [prodR] at h
  | cons l ls ih =>
    rw [digsR, digsR, incR]
    have hl : 0 < l + 1 := Nat.succ_pos l
    have e1 := Nat.div_add_mod t (l + 1)
    have e2 := Nat.mod_lt t hl
    by_cases hd : t % (l + 1) + 1 ≤ l
    · rw [if_pos hd]
      have h3 : (t + 1) % (l + 1) = t % (l + 1) + 1 := by
        rw [Nat.add_mod, Nat.mod_eq_of_lt (show 1 < l + 1 by omega)]
        exact Nat.mod_eq_of_lt (by omega)
      have h4 : (t + 1) / (l + 1) = t / (l + 1) := by
        refine Nat.div_eq_of_lt_le ?_ ?_
        · rw [Nat.mul_comm]; omega
        · rw [Nat.mul_comm, Nat.mul_succ]; omega
      rw [h3, h4]
    · rw [if_neg hd]
      have h5 : t + 1 = (l + 1) * (t / (l + 1) + 1) := by rw [Nat.mul_succ]; omega
      have h3 : (t + 1) % (l + 1) = 0 := by rw [h5, Nat.mul_mod_right]
      have h4 : (t + 1) / (l + 1) = t / (l + 1) + 1 := by rw [h5, Nat.mul_div_cancel_left _ hl]
      rw [h3, h4, ih]
      rw [prodR] at h
      rw [h5] at h
      exact Nat.lt_of_mul_lt_mul_left h
theorem incR_last (ls : List Nat) (t : Nat) (h : t + 1 = prodR ls) : (incR ls (digsR ls t)).2 = false := by
  induction ls generalizing t with
  | nil => rfl
  | cons l ls ih =>
    rw [digsR, incR]
    have hl : 0 < l + 1 := Nat.succ_pos l
    have hp := prodR_pos ls
    rw [prodR] at h
    have e1 := Nat.div_add_mod t (l + 1)
    have e2 := Nat.mod_lt t hl
    have h6 : t / (l + 1) < prodR ls := by
      refine Nat.div_lt_of_lt_mul ?_
      omega
    have h7 : (l + 1) * (t / (l + 1)) ≤ (l + 1) * (prodR ls - 1) := Nat.mul_le_mul (Nat.le_refl _) (by omega)
    have h8 : (l + 1) * prodR ls = (l + 1) * (prodR ls - 1) + (l + 1) := by
      obtain ⟨q, hq⟩ : ∃ q, prodR ls = q + 1 := ⟨prodR ls - 1, by omega⟩
      rw [hq, Nat.mul_succ]; rfl
    have hd : ¬ t % (l + 1) + 1 ≤ l := by omega
    rw [if_neg hd]
    refine ih _ ?_
    have h9 : (l + 1) * (t / (l + 1)) = (l + 1) * (prodR ls - 1) := by omega
    have := Nat.eq_of_mul_eq_mul_left hl h9
    omega
/-- the digits of a prefix and a digit, at the end of a longer list -/
theorem digsR_low (ls : List Nat) (l d q t : Nat) (hd : d ≤ l) (ht : t < prodR ls) : digsR (ls ++ [l]) (t + prodR ls * (d + (l + 1) * q)) = digsR ls t ++ [d] := by
  induction ls generalizing t with
  | nil =>
    simp only [prodR] at ht
    obtain rfl : t = 0 := by omega
    simp only [List.nil_append, digsR, prodR, Nat.one_mul, Nat.zero_add]
    rw [Nat.add_mul_mod_self_left, Nat.mod_eq_of_lt (by omega)]
  | cons k ls ih =>
    have hk : 0 < k + 1 := Nat.succ_pos k
    rw [List.cons_append, digsR, digsR, List.cons_append]
    rw [prodR, Nat.mul_assoc, Nat.add_mul_mod_self_left, Nat.add_mul_div_left _ _ hk, ih]
    rw [prodR] at ht
    exact Nat.div_lt_of_lt_mul ht
/-- the first of the least among those that are right, of the first t -/
def hB (ok : Nat → Bool) (co : Nat → Int) : Nat → Option Nat
  | 0 => none
  | t + 1 => match hB ok co t with
    | none => if ok t = true then some t else none
    | some b => if ok t = true ∧ co t < co b then some t else some b
theorem hB_some {ok : Nat → Bool} {co : Nat → Int} : ∀ {t b : Nat}, hB ok co t = some b → b < t ∧ ok b = true
  | 0, b, h => by cases h
  | t + 1, b, h => by
    rw [hB] at h
    cases e : hB ok co t with
    | none =>
      rw [e] at h
      simp only at h
      by_cases ho : ok t = true
      · rw [if_pos ho] at h; cases h; exact ⟨by omega, ho⟩
      · rw [if_neg ho] at h; cases h
    | some b' =>
      rw [e] at h
      simp only at h
      by_cases ho : ok t = true ∧ co t < co b'
      · rw [if_pos ho] at h; cases h; exact ⟨by omega, ho.1⟩
      · rw [if_neg ho] at h; cases h
        have := hB_some e
        exact ⟨by omega, this.2⟩
theorem hB_none {ok : Nat → Bool} {co : Nat → Int} : ∀ {t : Nat}, hB ok co t = none → ∀ j, j < t → ok j = false
  | 0, _, j, hj => by omega
  | t + 1, h, j, hj => by
    rw [hB] at h
    cases e : hB ok co t with
    | none =>
      rw [e] at h
      simp only at h
      by_cases ho : ok t = true
      · rw [if_pos ho] at h; cases h
      · by_cases he : j = t
        · subst he; simpa using ho
        · exact hB_none e j (by omega)
    | some b' =>
      rw [e] at h
      simp only at h
      by_cases ho : ok t = true ∧ co t < co b'
      · rw [if_pos ho] at h; cases h
      · rw [if_neg ho] at h; cases h
end Go.Proofs.Ytdbojkanelmlkaa.Plain
