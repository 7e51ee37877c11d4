/- The longest way: the list that both sides tell. No program stands here. -/
import Derived.Test.YtkdjeneogclocaaProT
namespace Go.Proofs.Ytkdjeneogclocaa.Plain
set_option linter.unusedVariables false
set_option linter.unusedSimpArgs false
/-- the one before a task that tells its start; -1 if there is none -/
def tell (ts : List TK) (st : Nat → Int) (i : Nat) : Int := tellF ts st i (tkAt ts i).bf.length
/-- the way back from a task -/
def wayL (ts : List TK) (st : Nat → Int) : Nat → Nat → List Int
  | 0, i => [(i : Int)]
  | f + 1, i => if 0 < st i ∧ 0 ≤ tell ts st i then (i : Int) :: wayL ts st f (tell ts st i).toNat else [(i : Int)]
theorem tell_lt {ts : List TK} {n : Nat} (h : TasksOk ts n) {st : Nat → Int} {i : Nat} (hi : i < n) (ht : 0 ≤ tell ts st i) : (tell ts st i).toNat < i := by
  rcases tellF_is (ts := ts) (st := st) (i := i) (tkAt ts i).bf.length with e | ⟨j, hj, e, _⟩
  · rw [tell, e] at ht; omega
  · rw [tell, e, Int.toNat_natCast]; exact (h i hi).lt hj
theorem way_fuel {ts : List TK} {n : Nat} (h : TasksOk ts n) {st : Nat → Int} (f : Nat) : ∀ g i, i < n → i ≤ f → i ≤ g → wayL ts st f i = wayL ts st g i := by
  induction f with
  | zero =>
    intro g i hi hf hg
    have : i = 0 := by omega
    subst this
    cases g with
    | zero => rfl
    | succ g =>
      rw [wayL, wayL]
      by_cases e : 0 < st 0 ∧ 0 ≤ tell ts st 0
      · have := tell_lt h hi e.2; omega
      · rw [if_neg e]
  | succ f ih =>
    intro g i hi hf hg
    cases g with
    | zero =>
      have : i = 0 := by omega
      subst this
      rw [wayL, wayL]
      by_cases e : 0 < st 0 ∧ 0 ≤ tell ts st 0
      · have := tell_lt h hi e.2; omega
      · rw [if_neg e]
    | succ g =>
      rw [wayL, wayL]
      by_cases e : 0 < st i ∧ 0 ≤ tell ts st i
      · have hlt := tell_lt h hi e.2
        rw [if_pos e, if_pos e, ih g _ (by omega) (by omega) (by omega)]
      · rw [if_neg e, if_neg e]
theorem way_step {ts : List TK} {n : Nat} (h : TasksOk ts n) {st : Nat → Int} {i : Nat} (hi : i < n) (h1 : 0 < st i) (h2 : 0 ≤ tell ts st i) : wayL ts st n i = (i : Int) :: wayL ts st n (tell ts st i).toNat := by
  have hlt := tell_lt h hi h2
  rw [way_fuel h n i i hi (by omega) (Nat.le_refl _)]
  obtain ⟨k, hk⟩ : ∃ k, i = k + 1 := ⟨i - 1, by omega⟩
  have e : wayL ts st i i = (i : Int) :: wayL ts st k (tell ts st i).toNat := by
    conv => lhs; rw [show wayL ts st i i = wayL ts st (k + 1) i by rw [← hk]]
    rw [wayL, if_pos ⟨h1, h2⟩]
  rw [e, way_fuel h k n _ (by omega) (by omega) (by omega)]
theorem way_stop {ts : List TK} {n : Nat} {st : Nat → Int} {i : Nat} (h0 : ¬ (0 < st i ∧ 0 ≤ tell ts st i)) : wayL ts st n i = [(i : Int)] := by
  cases n with
  | zero => rfl
  | succ n => rw [wayL, if_neg h0]
/-- along the way no task has slack -/
theorem way_slack {ts : List TK} {n : Nat} (h : TasksOk ts n) {e : Int} (he : ∀ i, i < n → eS ts n i + (tkAt ts i).a ≤ e) (f : Nat) : ∀ i, i < n → lS ts n e i = eS ts n i → ∀ x ∈ wayL ts (eS ts n) f i, ∃ j : Nat, x = (j : Int) ∧ j < n ∧ lS ts n e j = eS ts n j := by
  induction f with
  | zero => intro i hi hs x hx; rw [wayL, List.mem_singleton] at hx; exact ⟨i, hx, hi, hs⟩
  | succ f ih =>
    intro i hi hs x hx
    rw [wayL] at hx
    split at hx
    · rename_i hc
      rcases List.mem_cons.1 hx with hx | hx
      · exact ⟨i, hx, hi, hs⟩
      · have hlt := tell_lt h hi hc.2
        refine ih _ (by omega) ?_ x hx
        rcases tellF_is (ts := ts) (st := eS ts n) (i := i) (tkAt ts i).bf.length with e1 | ⟨j, hj, e1, e2⟩
        · have := hc.2; rw [tell, e1] at this; omega
        · rw [tell, e1, Int.toNat_natCast]
          exact tell_slack h he hi hj hs e2
    · rw [List.mem_singleton] at hx; exact ⟨i, hx, hi, hs⟩
theorem way_len (ts : List TK) (st : Nat → Int) (f i : Nat) : (wayL ts st f i).length ≤ f + 1 := by
  induction f generalizing i with
  | zero => simp [wayL]
  | succ f ih => rw [wayL]; split <;> simp <;> exact ih _
/-- the first task that tells the end -/
theorem first_end {ts : List TK} {n : Nat} (h : TasksOk ts n) (n1 : 1 ≤ n) : ∃ i, i < n ∧ eS ts n i + (tkAt ts i).a = lastF ts (eS ts n) n ∧ ∀ j, j < i → eS ts n j + (tkAt ts j).a ≠ lastF ts (eS ts n) n := by
  obtain ⟨i, hi, e⟩ := lastF_at (ts := ts) (st := eS ts n) n1 (fun i hi => by have := (eS_bd h i).1; have := (h i hi).a0; omega)
  have key : ∀ m, m ≤ n → (∃ i, i < m ∧ eS ts n i + (tkAt ts i).a = lastF ts (eS ts n) n ∧ ∀ j, j < i → eS ts n j + (tkAt ts j).a ≠ lastF ts (eS ts n) n) ∨ ∀ j, j < m → eS ts n j + (tkAt ts j).a ≠ lastF ts (eS ts n) n := by
    intro m
    induction m with
    | zero => intro _; exact .inr fun j hj => by omega
    | succ m ih =>
      intro hm
      rcases ih (by omega) with ⟨i, a, b, c⟩ | a
      · exact .inl ⟨i, by omega, b, c⟩
      · by_cases e : eS ts n m + (tkAt ts m).a = lastF ts (eS ts n) n
        · exact .inl ⟨m, by omega, e, a⟩
        · exact .inr fun j hj => by
            by_cases e2 : j = m
            · subst e2; exact e
            · exact a j (by omega)
  rcases key n (Nat.le_refl _) with h1 | h1
  · exact h1
  · exact absurd e (h1 i hi)
theorem end_slack {ts : List TK} {n : Nat} (h : TasksOk ts n) {i : Nat} (hi : i < n) (he : eS ts n i + (tkAt ts i).a = lastF ts (eS ts n) n) : lS ts n (lastF ts (eS ts n) n) i = eS ts n i := by
  have a := late_end h (e := lastF ts (eS ts n) n) hi
  have b := late_ge h (e := lastF ts (eS ts n) n) (fun i hi => (lastF_le ts (eS ts n) n).2 i hi) i hi
  omega
/-- the first k places and the last k places of a list have changed places -/
def revF (d : List Int) (n k m : Nat) : Int := if m < k ∨ n - 1 - m < k then d.getD (n - 1 - m) 0 else d.getD m 0
end Go.Proofs.Ytkdjeneogclocaa.Plain
