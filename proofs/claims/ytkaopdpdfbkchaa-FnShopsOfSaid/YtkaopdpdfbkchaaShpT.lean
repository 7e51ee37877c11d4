/- Open shops: what a plan by the least start tells. No program stands here. -/
import Derived.Test.YtkaopdpdfbkchaaLinT
namespace Go.Proofs.Ytkaopdpdfbkchaa.Plain
set_option linter.unusedVariables false
set_option linter.unusedSimpArgs false
/-- the sum of the times of a job, of a machine, of the steps that are told -/
def jobS (m : Nat) (t : Nat → Nat) (P : Nat → Bool) (s j : Nat) : Nat := ldN (fun x => P x && x / m == j) t s
def macS (m : Nat) (t : Nat → Nat) (P : Nat → Bool) (s k : Nat) : Nat := ldN (fun x => P x && x % m == k) t s
/-- one step more -/
def addP (P : Nat → Bool) (y : Nat) : Nat → Bool := fun x => P x || x == y
theorem jobS_add {m s y : Nat} {t : Nat → Nat} {P : Nat → Bool} (h : P y = false) (hy : y < s) (j : Nat) : jobS m t (addP P y) s j = jobS m t P s j + if y / m = j then t y else 0 := by
  unfold jobS addP
  by_cases e : y / m = j
  · rw [ldN_add (P := fun x => P x && x / m == j) (i := y) (by show (P y && _) = false; rw [h]; rfl) (by show ((P y || y == y) && _) = true; simp [e]) (fun x hx => by show ((P x || x == y) && _) = (P x && _); rw [show (x == y) = false by simpa using hx, Bool.or_false]), if_pos hy, if_pos e]
  · rw [if_neg e, Nat.add_zero]
    refine ldN_same fun x _ => ?_
    show ((P x || x == y) && _) = (P x && _)
    by_cases e2 : x = y
    · subst e2; simp [h, e]
    · have e3 : (x == y) = false := by simpa using e2
      rw [e3, Bool.or_false]
theorem macS_add {m s y : Nat} {t : Nat → Nat} {P : Nat → Bool} (h : P y = false) (hy : y < s) (k : Nat) : macS m t (addP P y) s k = macS m t P s k + if y % m = k then t y else 0 := by
  unfold macS addP
  by_cases e : y % m = k
  · rw [ldN_add (P := fun x => P x && x % m == k) (i := y) (by show (P y && _) = false; rw [h]; rfl) (by show ((P y || y == y) && _) = true; simp [e]) (fun x hx => by show ((P x || x == y) && _) = (P x && _); rw [show (x == y) = false by simpa using hx, Bool.or_false]), if_pos hy, if_pos e]
  · rw [if_neg e, Nat.add_zero]
    refine ldN_same fun x _ => ?_
    show ((P x || x == y) && _) = (P x && _)
    by_cases e2 : x = y
    · subst e2; simp [h, e]
    · have e3 : (x == y) = false := by simpa using e2
      rw [e3, Bool.or_false]
theorem jobS_le {m s : Nat} {t : Nat → Nat} (P : Nat → Bool) (j : Nat) : jobS m t P s j ≤ jobS m t (fun _ => true) s j := ldN_le (fun x hx => by simp at hx ⊢; exact hx.2) s
theorem macS_le {m s : Nat} {t : Nat → Nat} (P : Nat → Bool) (k : Nat) : macS m t P s k ≤ macS m t (fun _ => true) s k := ldN_le (fun x hx => by simp at hx ⊢; exact hx.2) s
/-- when a step can begin -/
def begF (m : Nat) (J F : Nat → Nat) (x : Nat) : Nat := max (J (x / m)) (F (x % m))
/-- what stands while an open shop is planned by the least start: P: the steps that are laid, a: their starts, J, F: when jobs and machines are free -/
structure OpI (m s B : Nat) (t : Nat → Nat) (P : Nat → Bool) (a J F : Nat → Nat) : Prop where
  eJ : ∀ x, x < s → P x = true → a x + t x ≤ J (x / m)
  eF : ∀ x, x < s → P x = true → a x + t x ≤ F (x % m)
  ap : ∀ x y, x < s → y < s → P x = true → P y = true → x ≠ y → x / m = y / m ∨ x % m = y % m → a x + t x ≤ a y ∨ a y + t y ≤ a x
  un : ∀ x, x < s → P x = false → begF m J F x ≤ jobS m t P s (x / m) + macS m t P s (x % m)
  sJ : ∀ j, jobS m t P s j ≤ J j
  sF : ∀ k, macS m t P s k ≤ F k
  JF : ∀ j, J j = 0 ∨ ∃ k, k < m ∧ J j ≤ F k
  F2 : ∀ k, F k ≤ 2 * B
  ex : ∀ k, F k = 0 ∨ ∃ x, x < s ∧ P x = true ∧ a x + t x = F k
theorem OpI.start (m s B : Nat) (t : Nat → Nat) (a : Nat → Nat) : OpI m s B t (fun _ => false) a (fun _ => 0) (fun _ => 0) :=
  ⟨(fun x _ h => by cases h), (fun x _ h => by cases h), (fun x y _ _ h => by cases h), (fun x _ _ => by unfold begF; simp), (fun j => by unfold jobS; rw [ldN_zero fun x _ => by simp]; exact Nat.zero_le _), (fun k => by unfold macS; rw [ldN_zero fun x _ => by simp]; exact Nat.zero_le _), (fun j => Or.inl rfl), (fun k => Nat.zero_le _), (fun k => Or.inl rfl)⟩
theorem OpI.put {m s B y : Nat} {t : Nat → Nat} {P : Nat → Bool} {a J F : Nat → Nat} (h : OpI m s B t P a J F) (m1 : 1 ≤ m) (hy : y < s) (hP : P y = false) (hmin : ∀ x, x < s → P x = false → begF m J F y ≤ begF m J F x)
    (hB1 : jobS m t (fun _ => true) s (y / m) ≤ B) (hB2 : macS m t (fun _ => true) s (y % m) ≤ B) :
    OpI m s B t (addP P y) (fun x => if x = y then begF m J F y else a x) (fun j => if j = y / m then begF m J F y + t y else J j) (fun k => if k = y % m then begF m J F y + t y else F k) := by
  have hbJ : J (y / m) ≤ begF m J F y := by unfold begF; omega
  have hbF : F (y % m) ≤ begF m J F y := by unfold begF; omega
  have hP' : ∀ x, x ≠ y → addP P y x = P x := fun x hx => by unfold addP; simp [hx]
  have huy := h.un y hy hP
  have hJle : ∀ j, J j ≤ (if j = y / m then begF m J F y + t y else J j) := fun j => by
    by_cases e : j = y / m
    · subst e; rw [if_pos rfl]; omega
    · rw [if_neg e]; exact Nat.le_refl _
  have hFle : ∀ k, F k ≤ (if k = y % m then begF m J F y + t y else F k) := fun k => by
    by_cases e : k = y % m
    · subst e; rw [if_pos rfl]; omega
    · rw [if_neg e]; exact Nat.le_refl _
  refine ⟨fun x hx hp => ?_, fun x hx hp => ?_, fun x z hx hz hpx hpz hne hs => ?_, fun x hx hp => ?_, fun j => ?_, fun k => ?_, fun j => ?_, fun k => ?_, fun k => ?_⟩
  · by_cases e : x = y
    · subst e; rw [if_pos rfl, if_pos rfl]; exact Nat.le_refl _
    · rw [if_neg e]; rw [hP' x e] at hp
      exact Nat.le_trans (h.eJ x hx hp) (hJle _)
  · by_cases e : x = y
    · subst e; rw [if_pos rfl, if_pos rfl]; exact Nat.le_refl _
    · rw [if_neg e]; rw [hP' x e] at hp
      exact Nat.le_trans (h.eF x hx hp) (hFle _)
  · by_cases e : x = y
    · subst e
      have ez : z ≠ x := fun h => hne h.symm
      rw [if_pos rfl, if_neg ez]
      rw [hP' z ez] at hpz
      refine .inr ?_
      rcases hs with hs | hs
      · have := h.eJ z hz hpz; rw [← hs] at this; omega
      · have := h.eF z hz hpz; rw [← hs] at this; omega
    · rw [if_neg e]
      rw [hP' x e] at hpx
      by_cases ez : z = y
      · subst ez
        rw [if_pos rfl]
        refine .inl ?_
        rcases hs with hs | hs
        · have := h.eJ x hx hpx; rw [hs] at this; omega
        · have := h.eF x hx hpx; rw [hs] at this; omega
      · rw [if_neg ez]
        rw [hP' z ez] at hpz
        exact h.ap x z hx hz hpx hpz hne hs
  · have e : x ≠ y := fun e => by subst e; unfold addP at hp; simp at hp
    rw [hP' x e] at hp
    have h1 := h.un x hx hp
    have h2 := hmin x hx hp
    have h3 : J (x / m) ≤ begF m J F x := by unfold begF; omega
    have h4 : F (x % m) ≤ begF m J F x := by unfold begF; omega
    rw [jobS_add hP hy, macS_add hP hy, begF]
    by_cases e1 : x / m = y / m
    · by_cases e2 : x % m = y % m
      · rw [if_pos e1, if_pos e2, if_pos e1.symm, if_pos e2.symm]; omega
      · rw [if_pos e1, if_neg e2, if_pos e1.symm, if_neg (fun h => e2 h.symm)]; omega
    · by_cases e2 : x % m = y % m
      · rw [if_neg e1, if_pos e2, if_neg (fun h => e1 h.symm), if_pos e2.symm]; omega
      · rw [if_neg e1, if_neg e2, if_neg (fun h => e1 h.symm), if_neg (fun h => e2 h.symm)]; omega
  · rw [jobS_add hP hy]
    have := h.sJ j
    by_cases e : j = y / m
    · subst e; rw [if_pos rfl, if_pos rfl]; omega
    · rw [if_neg e, if_neg (fun h => e h.symm)]; omega
  · rw [macS_add hP hy]
    have := h.sF k
    by_cases e : k = y % m
    · subst e; rw [if_pos rfl, if_pos rfl]; omega
    · rw [if_neg e, if_neg (fun h => e h.symm)]; omega
  · by_cases e : j = y / m
    · exact .inr ⟨y % m, Nat.mod_lt _ m1, by rw [if_pos e, if_pos rfl]; exact Nat.le_refl _⟩
    · rw [if_neg e]
      rcases h.JF j with h1 | ⟨k, h1, h2⟩
      · exact .inl h1
      · exact .inr ⟨k, h1, Nat.le_trans h2 (hFle k)⟩
  · by_cases e : k = y % m
    · rw [if_pos e]
      have h1 := jobS_le (m := m) (s := s) (t := t) (addP P y) (y / m)
      have h2 := macS_le (m := m) (s := s) (t := t) (addP P y) (y % m)
      rw [jobS_add hP hy, if_pos rfl] at h1
      rw [macS_add hP hy, if_pos rfl] at h2
      omega
    · rw [if_neg e]; exact h.F2 k
  · by_cases e : k = y % m
    · exact .inr ⟨y, hy, by unfold addP; simp, by rw [if_pos rfl, if_pos e]⟩
    · rw [if_neg e]
      rcases h.ex k with h1 | ⟨x, h1, h2, h3⟩
      · exact .inl h1
      · have e2 : x ≠ y := fun e => by subst e; rw [hP] at h2; cases h2
        exact .inr ⟨x, h1, by rw [hP' x e2]; exact h2, by rw [if_neg e2]; exact h3⟩
/-- how many are laid -/
theorem some_left {P : Nat → Bool} {s : Nat} (h : ldN P (fun _ => 1) s < s) : ∃ x, x < s ∧ P x = false := by
  have key : ∀ k, (∃ x, x < k ∧ P x = false) ∨ ldN P (fun _ => 1) k = k := fun k => by
    induction k with
    | zero => exact .inr rfl
    | succ k ih =>
      rcases ih with ⟨x, h1, h2⟩ | ih
      · exact .inl ⟨x, Nat.lt_succ_of_lt h1, h2⟩
      · cases hp : P k with
        | false => exact .inl ⟨k, by omega, hp⟩
        | true => refine .inr ?_; rw [ldN, ih, if_pos hp]
  rcases key s with h1 | h1
  · exact h1
  · rw [h1] at h; exact absurd h (Nat.lt_irrefl _)
theorem cnt_addP {P : Nat → Bool} {s y : Nat} (h : P y = false) (hy : y < s) : ldN (addP P y) (fun _ => 1) s = ldN P (fun _ => 1) s + 1 := by
  rw [ldN_add (P := P) (i := y) h (by unfold addP; simp) (fun x hx => by unfold addP; simp [hx]), if_pos hy]
theorem all_laid {P : Nat → Bool} : ∀ {s : Nat}, ldN P (fun _ => 1) s = s → ∀ x, x < s → P x = true
  | 0, _, x, hx => by omega
  | s + 1, h, x, hx => by
    have h1 : ldN P (fun _ => 1) s ≤ s := by
      have key : ∀ k, ldN P (fun _ => 1) k ≤ k := fun k => by
        induction k with
        | zero => exact Nat.le_refl _
        | succ k ih => rw [ldN]; split <;> omega
      exact key s
    rw [ldN] at h
    cases hp : P s with
    | false => rw [if_neg (by simp [hp])] at h; omega
    | true =>
      by_cases e : x = s
      · subst e; exact hp
      · rw [if_pos hp] at h
        exact all_laid (s := s) (Nat.add_right_cancel h) x (by omega)
/-- the bound: the greatest of the sums -/
structure BndS (m s n B : Nat) (t : Nat → Nat) : Prop where
  jb : ∀ j, j < n → jobS m t (fun _ => true) s j ≤ B
  mc : ∀ k, k < m → macS m t (fun _ => true) s k ≤ B
  ex : (∃ j, j < n ∧ B = jobS m t (fun _ => true) s j) ∨ ∃ k, k < m ∧ B = macS m t (fun _ => true) s k
theorem open_done {m s n B : Nat} {t : Nat → Nat} {P : Nat → Bool} {a J F : Nat → Nat} (h : OpI m s B t P a J F) (hb : BndS m s n B t) (hall : ∀ x, x < s → P x = true) (m1 : 1 ≤ m) {M : Nat} (hM : ∀ k, k < m → F k ≤ M) (hMe : ∃ k, k < m ∧ F k = M) :
    B ≤ M ∧ M ≤ 2 * B ∧ (∀ x, x < s → a x + t x ≤ M) := by
  obtain ⟨k0, hk0, e0⟩ := hMe
  refine ⟨?_, by have := h.F2 k0; omega, fun x hx => Nat.le_trans (h.eF x hx (hall x hx)) (hM _ (Nat.mod_lt _ m1))⟩
  have eqJ : ∀ j, jobS m t P s j = jobS m t (fun _ => true) s j := fun j => ldN_same fun x hx => by rw [hall x hx]
  have eqF : ∀ k, macS m t P s k = macS m t (fun _ => true) s k := fun k => ldN_same fun x hx => by rw [hall x hx]
  rcases hb.ex with ⟨j, hj, e⟩ | ⟨k, hk, e⟩
  · have h1 := h.sJ j
    rw [eqJ, ← e] at h1
    rcases h.JF j with h2 | ⟨k, h2, h3⟩
    · omega
    · have := hM k h2; omega
  · have h1 := h.sF k
    rw [eqF, ← e] at h1
    have := hM k hk; omega
end Go.Proofs.Ytkaopdpdfbkchaa.Plain
