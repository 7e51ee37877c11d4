/- The sums of jobs and machines, row by row. No program stands here. -/
import Derived.Test.YtkaopdpdfbkchaaShpT
namespace Go.Proofs.Ytkaopdpdfbkchaa.Plain
set_option linter.unusedVariables false
set_option linter.unusedSimpArgs false
theorem ldN_block (P : Nat → Bool) (t : Nat → Nat) (a : Nat) : ∀ r, ldN P t (a + r) = ldN P t a + ldN (fun i => P (a + i)) (fun i => t (a + i)) r
  | 0 => rfl
  | r + 1 => by rw [← Nat.add_assoc, ldN, ldN, ldN_block P t a r, Nat.add_assoc]
theorem ldN_all (t : Nat → Nat) : ∀ r, ldN (fun _ => true) t r = sumN t r
  | 0 => rfl
  | r + 1 => by rw [ldN, sumN, ldN_all t r, if_pos rfl]
theorem ldN_one (t : Nat → Nat) (k : Nat) : ∀ r, ldN (fun i => i == k) t r = if k < r then t k else 0
  | 0 => rfl
  | r + 1 => by
    rw [ldN, ldN_one t k r]
    by_cases h : r = k
    · subst h; simp
    · rw [if_neg (show ¬ (r == k) = true by simpa using h), Nat.add_zero]
      by_cases h2 : k < r
      · rw [if_pos h2, if_pos (by omega)]
      · rw [if_neg h2, if_neg (by omega)]
theorem row_div {m q i : Nat} (h : i < m) : (q * m + i) / m = q := by
  rw [Nat.mul_comm, Nat.mul_add_div (by omega), Nat.div_eq_of_lt h, Nat.add_zero]
theorem row_mod {m q i : Nat} (h : i < m) : (q * m + i) % m = i := by
  rw [Nat.mul_comm, Nat.mul_add_mod, Nat.mod_eq_of_lt h]
theorem row_lt {m n q i : Nat} (hq : q < n) (h : i < m) : q * m + i < n * m := by
  have : (q + 1) * m ≤ n * m := Nat.mul_le_mul_right m hq
  rw [Nat.add_mul] at this
  omega
theorem jobS_upto {m j : Nat} (t : Nat → Nat) : ∀ q, jobS m t (fun _ => true) (q * m) j = if j < q then sumN (fun i => t (j * m + i)) m else 0
  | 0 => by rw [Nat.zero_mul]; rfl
  | q + 1 => by
    have ih := jobS_upto (m := m) (j := j) t q
    unfold jobS at ih ⊢
    rw [Nat.succ_mul, ldN_block, ih]
    by_cases h : q = j
    · subst h
      rw [if_neg (Nat.lt_irrefl _), if_pos (Nat.lt_succ_self _), Nat.zero_add, ← ldN_all]
      exact ldN_same fun i hi => by show (true && (q * m + i) / m == q) = true; rw [row_div hi]; simp
    · rw [ldN_zero (k := m) fun i hi => by show (true && (q * m + i) / m == j) = false; rw [row_div hi]; simpa using h]
      by_cases h2 : j < q
      · rw [if_pos h2, if_pos (by omega), Nat.add_zero]
      · rw [if_neg h2, if_neg (by omega)]
theorem macS_upto {m k : Nat} (t : Nat → Nat) (hk : k < m) : ∀ q, macS m t (fun _ => true) (q * m) k = sumN (fun i => t (i * m + k)) q
  | 0 => by rw [Nat.zero_mul]; rfl
  | q + 1 => by
    have ih := macS_upto t hk q
    unfold macS at ih ⊢
    rw [Nat.succ_mul, ldN_block, ih, sumN]
    congr 1
    refine (ldN_same (Q := fun i => i == k) fun i hi => ?_).trans ?_
    · show (true && (q * m + i) % m == k) = (i == k); rw [row_mod hi, Bool.true_and]
    · rw [ldN_one, if_pos hk]
theorem jobS_row {m n j : Nat} (t : Nat → Nat) (hj : j < n) : sumN (fun i => t (j * m + i)) m = jobS m t (fun _ => true) (n * m) j := by rw [jobS_upto, if_pos hj]
theorem macS_row {m n k : Nat} (t : Nat → Nat) (hk : k < m) : sumN (fun i => t (i * m + k)) n = macS m t (fun _ => true) (n * m) k := (macS_upto t hk n).symm
theorem ldN_bd {P : Nat → Bool} {t : Nat → Nat} {c : Nat} : ∀ {s : Nat}, (∀ i, i < s → t i ≤ c) → ldN P t s ≤ c * s
  | 0, _ => Nat.zero_le _
  | s + 1, h => by
    have h1 := ldN_bd (P := P) (s := s) fun i hi => h i (by omega)
    have h2 := h s (by omega)
    rw [ldN, Nat.mul_succ]
    split <;> omega
/-- the bound of the first q jobs, of all jobs and the first q machines -/
def bndJ (m s : Nat) (t : Nat → Nat) : Nat → Nat
  | 0 => 0
  | q + 1 => max (bndJ m s t q) (jobS m t (fun _ => true) s q)
def bndM (m s n : Nat) (t : Nat → Nat) : Nat → Nat
  | 0 => bndJ m s t n
  | q + 1 => max (bndM m s n t q) (macS m t (fun _ => true) s q)
theorem bndJ_le {m s c : Nat} {t : Nat → Nat} (h : ∀ j, jobS m t (fun _ => true) s j ≤ c) : ∀ q, bndJ m s t q ≤ c
  | 0 => Nat.zero_le _
  | q + 1 => by have := bndJ_le h q; have := h q; rw [bndJ]; omega
theorem bndM_le {m s n c : Nat} {t : Nat → Nat} (h : ∀ j, jobS m t (fun _ => true) s j ≤ c) (h2 : ∀ j, macS m t (fun _ => true) s j ≤ c) : ∀ q, bndM m s n t q ≤ c
  | 0 => bndJ_le h n
  | q + 1 => by have := bndM_le (n := n) h h2 q; have := h2 q; rw [bndM]; omega
theorem bndJ_ex {m s : Nat} {t : Nat → Nat} : ∀ q, (∀ j, j < q → jobS m t (fun _ => true) s j ≤ bndJ m s t q) ∧ (1 ≤ q → ∃ j, j < q ∧ bndJ m s t q = jobS m t (fun _ => true) s j)
  | 0 => ⟨fun j h => by omega, fun h => by omega⟩
  | q + 1 => by
    have ih := bndJ_ex (m := m) (s := s) (t := t) q
    refine ⟨fun j hj => ?_, fun _ => ?_⟩
    · rw [bndJ]
      by_cases e : j = q
      · subst e; omega
      · have := ih.1 j (by omega); omega
    · rw [bndJ]
      by_cases h : bndJ m s t q ≤ jobS m t (fun _ => true) s q
      · exact ⟨q, by omega, by omega⟩
      · by_cases h0 : 1 ≤ q
        · obtain ⟨j, h1, h2⟩ := ih.2 h0
          exact ⟨j, by omega, by omega⟩
        · obtain rfl : q = 0 := by omega
          exact absurd (Nat.zero_le _) h
theorem bndM_ex {m s n : Nat} {t : Nat → Nat} (n1 : 1 ≤ n) : ∀ q, (∀ j, j < n → jobS m t (fun _ => true) s j ≤ bndM m s n t q) ∧ (∀ k, k < q → macS m t (fun _ => true) s k ≤ bndM m s n t q) ∧ ((∃ j, j < n ∧ bndM m s n t q = jobS m t (fun _ => true) s j) ∨ ∃ k, k < q ∧ bndM m s n t q = macS m t (fun _ => true) s k)
  | 0 => ⟨(bndJ_ex n).1, fun k h => by omega, .inl ((bndJ_ex n).2 n1)⟩
  | q + 1 => by
    have ih := bndM_ex (m := m) (s := s) (t := t) n1 q
    refine ⟨fun j hj => ?_, fun k hk => ?_, ?_⟩
    · have := ih.1 j hj; rw [bndM]; omega
    · rw [bndM]
      by_cases e : k = q
      · subst e; omega
      · have := ih.2.1 k (by omega); omega
    · rw [bndM]
      by_cases h : bndM m s n t q ≤ macS m t (fun _ => true) s q
      · exact .inr ⟨q, by omega, by omega⟩
      · rcases ih.2.2 with ⟨j, h1, h2⟩ | ⟨k, h1, h2⟩
        · exact .inl ⟨j, h1, by omega⟩
        · exact .inr ⟨k, by omega, by omega⟩
theorem bndS_of {m s n : Nat} {t : Nat → Nat} (n1 : 1 ≤ n) : BndS m s n (bndM m s n t m) t := ⟨(bndM_ex n1 m).1, (bndM_ex n1 m).2.1, (bndM_ex n1 m).2.2⟩
end Go.Proofs.Ytkaopdpdfbkchaa.Plain
