/- What the law of shops draws: routes and turns. No program stands here. -/
import Derived.Test.YtkaopdpdfbkchaaShpN
import Derived.Test.YtkaopdpdfbkchaaAllI
namespace Go.Proofs.Ytkaopdpdfbkchaa.Plain
set_option linter.unusedVariables false
set_option linter.unusedSimpArgs false
/-- the last end of the first steps -/
def mxE (a t : Nat → Nat) : Nat → Nat
  | 0 => 0
  | i + 1 => max (mxE a t i) (a i + t i)
theorem mxE_le {a t : Nat → Nat} {M : Nat} : ∀ {s : Nat}, (∀ x, x < s → a x + t x ≤ M) → mxE a t s ≤ M
  | 0, _ => Nat.zero_le _
  | s + 1, h => by have := mxE_le (s := s) fun x hx => h x (by omega); have := h s (by omega); rw [mxE]; omega
theorem mxE_ge {a t : Nat → Nat} : ∀ {s x : Nat}, x < s → a x + t x ≤ mxE a t s
  | 0, x, h => by omega
  | s + 1, x, h => by
    rw [mxE]
    by_cases e : x = s
    · subst e; omega
    · have := mxE_ge (a := a) (t := t) (s := s) (x := x) (by omega); omega
theorem mxE_is {a t : Nat → Nat} {M s : Nat} (h : ∀ x, x < s → a x + t x ≤ M) (he : ∃ x, x < s ∧ a x + t x = M) : mxE a t s = M := by
  obtain ⟨x, hx, e⟩ := he
  have h1 := mxE_le h
  have h2 := mxE_ge (a := a) (t := t) hx
  omega
theorem count_LN (tu : Nat → Nat) (j : Nat) : ∀ s, (LN tu s).count j = ldN (fun x => tu x == j) (fun _ => 1) s
  | 0 => rfl
  | s + 1 => by
    rw [LN_succ, count_snoc, count_LN tu j s, ldN]
    by_cases e : tu s = j
    · rw [if_pos e, if_pos (by simpa using e)]
    · rw [if_neg e, if_neg (by simpa using e)]
theorem sum_ones : ∀ m, sumN (fun _ => 1) m = m
  | 0 => rfl
  | m + 1 => by rw [sumN, sum_ones m]
/-- each job as often as there are machines, one behind the other -/
theorem full_start (m n : Nat) (m1 : 1 ≤ m) : FullR m n (LN (fun x => x / m) (n * m)) := by
  refine ⟨fun j hj => ?_, fun j hj => ?_⟩
  · obtain ⟨x, hx, rfl⟩ := List.mem_map.1 hj
    exact Nat.div_lt_of_lt_mul (by rw [Nat.mul_comm]; exact List.mem_range.1 hx)
  · rw [count_LN]
    have h := jobS_upto (m := m) (j := j) (fun _ => 1) n
    unfold jobS at h
    rw [if_pos hj, sum_ones] at h
    exact (ldN_same fun x _ => by simp).trans h
/-- two turns change places -/
def swpR (tu : Nat → Nat) (i k x : Nat) : Nat := if x = k then tu i else if x = i then tu k else tu x
theorem LN_get (tu : Nat → Nat) {s i : Nat} (h : i < s) : (LN tu s)[i]? = some (tu i) := by
  unfold LN
  rw [List.getElem?_map, List.getElem?_range h]; rfl
theorem LN_len (tu : Nat → Nat) (s : Nat) : (LN tu s).length = s := by simp [LN]
theorem LN_swp (tu : Nat → Nat) {s i k : Nat} (hi : i < s) (hk : k < s) : LN (swpR tu i k) s = ((LN tu s).set i (tu k)).set k (tu i) := by
  refine List.ext_getElem? fun x => ?_
  rw [List.getElem?_set, List.getElem?_set]
  by_cases hx : x < s
  · rw [LN_get _ hx, LN_get _ hx, List.length_set, LN_len]
    unfold swpR
    by_cases e1 : x = k
    · subst e1; rw [if_pos rfl, if_pos rfl, if_pos hx]
    · rw [if_neg e1, if_neg (show ¬ k = x from fun h => e1 h.symm)]
      by_cases e2 : x = i
      · subst e2; rw [if_pos rfl, if_pos rfl, if_pos hx]
      · rw [if_neg e2, if_neg (show ¬ i = x from fun h => e2 h.symm)]
  · rw [if_neg (by omega), if_neg (by omega), List.getElem?_eq_none (by rw [LN_len]; omega), List.getElem?_eq_none (by rw [LN_len]; omega)]
theorem LN_perm (tu : Nat → Nat) {s i k : Nat} (hi : i < s) (hk : k < s) : (LN (swpR tu i k) s).Perm (LN tu s) := by
  rw [LN_swp tu hi hk]
  have h1 : (LN tu s)[i]'(by rw [LN_len]; exact hi) = tu i := by
    have := LN_get tu hi
    rw [List.getElem?_eq_getElem (by rw [LN_len]; exact hi)] at this
    exact Option.some.inj this
  have h2 : (LN tu s)[k]'(by rw [LN_len]; exact hk) = tu k := by
    have := LN_get tu hk
    rw [List.getElem?_eq_getElem (by rw [LN_len]; exact hk)] at this
    exact Option.some.inj this
  rw [← h1, ← h2]
  exact List.set_set_perm (by rw [LN_len]; exact hi) (by rw [LN_len]; exact hk)
theorem FullR.swap {m n s i k : Nat} {tu : Nat → Nat} (h : FullR m n (LN tu s)) (hi : i < s) (hk : k < s) : FullR m n (LN (swpR tu i k) s) := by
  have hp := LN_perm tu hi hk
  exact ⟨fun j hj => h.1 j (hp.mem_iff.1 hj), fun j hj => by rw [hp.count_eq]; exact h.2 j hj⟩
/-- routes that are turned -/
def roS (m : Nat) (sh : Nat → Nat) (x : Nat) : Nat := (x % m + sh (x / m)) % m
end Go.Proofs.Ytkaopdpdfbkchaa.Plain
namespace Go.Proofs.Ytkaopdpdfbkchaa
open Plain
theorem roS_all (m : Nat) (sh : Nat → Nat) (m1 : 1 ≤ m) (m3 : m ≤ 3) (q : Nat) : AllD (fun k => roS m sh (q * m + k)) m := by
  refine ⟨fun k hk => Nat.mod_lt _ (by omega), fun a b ha hb e => ?_⟩
  unfold roS at e
  simp only [row_div ha, row_div hb, row_mod ha, row_mod hb] at e
  generalize sh q = c at e
  rcases (show m = 1 ∨ m = 2 ∨ m = 3 by omega) with rfl | rfl | rfl <;> omega
end Go.Proofs.Ytkaopdpdfbkchaa
