/- Plans of jobs by their starts. No program stands here. -/
import Derived.Test.YtkdjeneogclocaaRulE
namespace Go.Proofs.Ytkdjeneogclocaa.Plain
set_option linter.unusedVariables false
set_option linter.unusedSimpArgs false
/-- no job before its release, and no two at one time -/
def planP (l : List Q4) (s : List Int) (n : Nat) : Prop := ∀ i, i < n → (jobAt l i).b ≤ s.getD i 0 ∧ ∀ k, k < i → ¬ (s.getD i 0 < s.getD k 0 + (jobAt l k).a ∧ s.getD k 0 < s.getD i 0 + (jobAt l i).a)
theorem endF_up {l : List Q4} (h : ∀ q ∈ l, jobOk q) (g : Nat → Nat) {a b : Nat} (hab : a ≤ b) : endF l g a ≤ endF l g b := by
  induction b with
  | zero => rw [show a = 0 by omega]; exact Int.le_refl _
  | succ b ih =>
    by_cases e : a = b + 1
    · rw [e]; exact Int.le_refl _
    · have := ih (by omega)
      have := jobAt_ok h (g b)
      rw [jobOk] at this
      rw [endF]; omega
/-- the starts by job, the first k jobs of the order told -/
def begsL (l : List Q4) (g : Nat → Nat) (n : Nat) : Nat → List Int
  | 0 => List.replicate n 0
  | k + 1 => (begsL l g n k).set (g k) (endF l g (k + 1) - (jobAt l (g k)).a)
theorem begsL_len (l : List Q4) (g : Nat → Nat) (n k : Nat) : (begsL l g n k).length = n := by
  induction k with
  | zero => simp [begsL]
  | succ k ih => simp [begsL, ih]
theorem begsL_at (l : List Q4) {g : Nat → Nat} {n : Nat} (hg : Perm g n) (k : Nat) (hk : k ≤ n) (j : Nat) (hj : j < k) : (begsL l g n k).getD (g j) 0 = endF l g (j + 1) - (jobAt l (g j)).a := by
  induction k with
  | zero => omega
  | succ k ih =>
    rw [begsL, set_at _ _ _ _ (by rw [begsL_len]; exact hg.lt k (by omega))]
    by_cases e : g j = g k
    · rw [if_pos e, hg.inj j k (by omega) (by omega) e]
    · rw [if_neg e]
      exact ih (by omega) (by
        have : j ≠ k := fun e2 => e (by rw [e2])
        omega)
theorem begs_bd {l : List Q4} (h : ∀ q ∈ l, jobOk q) {g : Nat → Nat} {n : Nat} (hg : Perm g n) (hn : n ≤ 24) (i : Nat) (hi : i < n) : 0 ≤ (begsL l g n n).getD i 0 ∧ (begsL l g n n).getD i 0 ≤ 1000000 := by
  obtain ⟨k, hk, rfl⟩ := hg.onto i hi
  rw [begsL_at l hg n (Nat.le_refl _) k hk]
  have a := endF_bd h g (k + 1)
  have a2 := endF_bd h g k
  have b := jobAt_ok h (g k)
  rw [jobOk] at b
  have c : endF l g (k + 1) = max (endF l g k) (jobAt l (g k)).b + (jobAt l (g k)).a := rfl
  push_cast at a
  omega
theorem begs_plan {l : List Q4} (h : ∀ q ∈ l, jobOk q) {g : Nat → Nat} {n : Nat} (hg : Perm g n) : planP l (begsL l g n n) n := by
  have key : ∀ x y, x < y → y < n → ¬ (begsL l g n n).getD (g y) 0 < (begsL l g n n).getD (g x) 0 + (jobAt l (g x)).a := fun x y hxy hy => by
    rw [begsL_at l hg n (Nat.le_refl _) y hy, begsL_at l hg n (Nat.le_refl _) x (by omega)]
    have c : endF l g (y + 1) = max (endF l g y) (jobAt l (g y)).b + (jobAt l (g y)).a := rfl
    have := endF_up h g (show x + 1 ≤ y by omega)
    omega
  intro i hi
  obtain ⟨x, hx, rfl⟩ := hg.onto i hi
  refine ⟨?_, fun k hk => ?_⟩
  · rw [begsL_at l hg n (Nat.le_refl _) x hx]
    have c : endF l g (x + 1) = max (endF l g x) (jobAt l (g x)).b + (jobAt l (g x)).a := rfl
    omega
  · obtain ⟨y, hy, rfl⟩ := hg.onto k (by omega)
    rcases Nat.lt_trichotomy x y with h1 | h1 | h1
    · exact fun e => key x y h1 hy e.2
    · subst h1; omega
    · exact fun e => key y x h1 hx e.1
theorem begs_bad {l : List Q4} (h : ∀ q ∈ l, jobOk q) {s : List Int} {n x y : Nat} (hx : x < n) (hy : y < n) (hxy : x ≠ y) (e : s.getD x 0 = s.getD y 0) : ¬ planP l s n := by
  intro hp
  have a := jobAt_ok h x
  have b := jobAt_ok h y
  rw [jobOk] at a b
  rcases Nat.lt_or_ge x y with h1 | h1
  · exact (hp y hy).2 x h1 ⟨by omega, by omega⟩
  · exact (hp x hx).2 y (by omega) ⟨by omega, by omega⟩
theorem cost_zero {l : List Q4} (h : ∀ q ∈ l, jobOk q) {g : Nat → Nat} {n : Nat} (hg : Perm g n) (n1 : 1 ≤ n) : costO 0 l g n = endF l g n := by
  obtain ⟨h1, i, hi, e⟩ := cost_top 0 rfl l (endsL l g n n) (n - 1)
  obtain ⟨k, hk, rfl⟩ := hg.onto i (by omega)
  have h2 := h1 (g (n - 1)) (by have := hg.lt (n - 1) (by omega); omega)
  rw [endsL_at l hg n (Nat.le_refl _) k hk] at e
  rw [endsL_at l hg n (Nat.le_refl _) (n - 1) (by omega), show n - 1 + 1 = n by omega] at h2
  have := endF_up h g (show k + 1 ≤ n by omega)
  rw [costO]
  simp only [shareF, if_true] at e h2
  omega
/-- the last end of the first k jobs -/
def topS (l : List Q4) (s : List Int) : Nat → Int
  | 0 => 0
  | k + 1 => max (topS l s k) (s.getD k 0 + (jobAt l k).a)
theorem topS_is (l : List Q4) (s : List Int) (k : Nat) : (∀ i, i < k → s.getD i 0 + (jobAt l i).a ≤ topS l s k) ∧ (topS l s k = 0 ∨ ∃ i, i < k ∧ topS l s k = s.getD i 0 + (jobAt l i).a) ∧ 0 ≤ topS l s k := by
  induction k with
  | zero => exact ⟨fun i hi => by omega, .inl rfl, Int.le_refl _⟩
  | succ k ih =>
    obtain ⟨h1, h2, h3⟩ := ih
    have c : topS l s (k + 1) = max (topS l s k) (s.getD k 0 + (jobAt l k).a) := rfl
    refine ⟨fun i hi => ?_, ?_, by omega⟩
    · by_cases e : i = k
      · subst e; omega
      · have := h1 i (by omega); omega
    · by_cases e : topS l s k ≤ s.getD k 0 + (jobAt l k).a
      · exact .inr ⟨k, by omega, by omega⟩
      · rcases h2 with h2 | ⟨i, hi, e2⟩
        · exact .inl (by omega)
        · exact .inr ⟨i, by omega, by omega⟩
theorem begs_top {l : List Q4} (h : ∀ q ∈ l, jobOk q) {g : Nat → Nat} {n : Nat} (hg : Perm g n) (n1 : 1 ≤ n) : topS l (begsL l g n n) n = endF l g n := by
  obtain ⟨h1, h2, h3⟩ := topS_is l (begsL l g n n) n
  have a := h1 (g (n - 1)) (hg.lt _ (by omega))
  rw [begsL_at l hg n (Nat.le_refl _) (n - 1) (by omega), show n - 1 + 1 = n by omega] at a
  have b := (endF_bd h g n).1
  rcases h2 with h2 | ⟨i, hi, e⟩
  · omega
  · obtain ⟨k, hk, rfl⟩ := hg.onto i hi
    rw [begsL_at l hg n (Nat.le_refl _) k hk] at e
    have := endF_up h g (show k + 1 ≤ n by omega)
    omega
/-- two neighbours of an order change places -/
def turnL (d : List Int) (x : Nat) : List Int := (d.set x (d.getD (x + 1) 0)).set (x + 1) (d.getD x 0)
theorem turnL_len (d : List Int) (x : Nat) : (turnL d x).length = d.length := by simp [turnL]
theorem turnL_at {d : List Int} {x : Nat} (h : x + 1 < d.length) (k : Nat) : (turnL d x).getD k 0 = if k = x then d.getD (x + 1) 0 else if k = x + 1 then d.getD x 0 else d.getD k 0 := by
  rw [turnL, set_at _ _ _ _ (by simp; omega), set_at _ _ _ _ (by omega)]
  by_cases e : k = x
  · subst e; rw [if_neg (by omega), if_pos rfl, if_pos rfl]
  · rw [if_neg e, if_neg e]
theorem turnL_perm {d : List Int} {n : Nat} (hl : d.length = n) (hp : Perm (ordF d) n) {x : Nat} (hx : x + 1 < n) : Perm (ordF (turnL d x)) n := by
  have e : ∀ k, ordF (turnL d x) k = ordF d (if k = x then x + 1 else if k = x + 1 then x else k) := fun k => by
    rw [ordF, turnL_at (by omega)]
    split
    · rfl
    · split <;> rfl
  refine ⟨fun k hk => ?_, fun a b ha hb hab => ?_⟩
  · rw [e]; exact hp.lt _ (by split; omega; split <;> omega)
  · rw [e, e] at hab
    have := hp.inj _ _ (by split; omega; split <;> omega) (by split; omega; split <;> omega) hab
    split at this <;> split at this <;> (try split at this) <;> (try split at this) <;> omega
end Go.Proofs.Ytkdjeneogclocaa.Plain
