/- Sums over an order, and why an order by a rule costs no more than any other. No program stands here. -/
import Derived.Test.YtkdjeneogclocaaPlain
namespace Go.Proofs.Ytkdjeneogclocaa.Plain
set_option linter.unusedVariables false
set_option linter.unusedSimpArgs false
def sumN (f : Nat → Int) : Nat → Int
  | 0 => 0
  | n + 1 => sumN f n + f n
theorem sumN_eq {f g : Nat → Int} {n : Nat} (h : ∀ k, k < n → f k = g k) : sumN f n = sumN g n := by
  induction n with
  | zero => rfl
  | succ n ih => rw [sumN, sumN, ih (fun k hk => h k (by omega)), h n (by omega)]
theorem sumN_le {f g : Nat → Int} {n : Nat} (h : ∀ k, k < n → f k ≤ g k) : sumN f n ≤ sumN g n := by
  induction n with
  | zero => exact Int.le_refl _
  | succ n ih =>
    have := ih (fun k hk => h k (by omega))
    have := h n (by omega)
    rw [sumN, sumN]; omega
theorem sumN_add (f g : Nat → Int) (n : Nat) : sumN (fun k => f k + g k) n = sumN f n + sumN g n := by
  induction n with
  | zero => rfl
  | succ n ih => rw [sumN, sumN, sumN, ih]; omega
theorem sumN_mul (c : Int) (f : Nat → Int) (n : Nat) : sumN (fun k => c * f k) n = c * sumN f n := by
  induction n with
  | zero => simp [sumN]
  | succ n ih => rw [sumN, sumN, ih, Int.mul_add]
theorem sumN_mono {f : Nat → Int} {m n : Nat} (h : m ≤ n) (hf : ∀ k, k < n → 0 ≤ f k) : sumN f m ≤ sumN f n := by
  induction n with
  | zero => rw [show m = 0 by omega]; exact Int.le_refl _
  | succ n ih =>
    by_cases e : m = n + 1
    · rw [e]; exact Int.le_refl _
    · have := ih (by omega) (fun k hk => hf k (by omega))
      have := hf n (by omega)
      rw [sumN]; omega
theorem sumN_rest {f : Nat → Int} {m n : Nat} (h : m ≤ n) (hf : ∀ k, m ≤ k → k < n → f k = 0) : sumN f n = sumN f m := by
  induction n with
  | zero => rw [show m = 0 by omega]
  | succ n ih =>
    by_cases e : m = n + 1
    · rw [e]
    · rw [sumN, ih (by omega) (fun k h1 h2 => hf k h1 (by omega)), hf n (by omega) (by omega)]; omega
theorem sumN_one {f g : Nat → Int} {n p : Nat} (hp : p < n) (h : ∀ k, k < n → k ≠ p → f k = g k) : sumN f n = sumN g n - g p + f p := by
  induction n with
  | zero => omega
  | succ n ih =>
    rw [sumN, sumN]
    by_cases e : p = n
    · subst e
      rw [sumN_eq (g := g) (fun k hk => h k (by omega) (by omega))]; omega
    · rw [ih (by omega) (fun k hk => h k (by omega)), h n (by omega) (by omega)]; omega
/-- every number below n stands once -/
structure Perm (g : Nat → Nat) (n : Nat) : Prop where
  lt : ∀ k, k < n → g k < n
  inj : ∀ a b, a < n → b < n → g a = g b → a = b
theorem dove (n : Nat) : ∀ g : Nat → Nat, (∀ k, k ≤ n → g k < n) → ∃ i j, i < j ∧ j ≤ n ∧ g i = g j := by
  induction n with
  | zero => intro g h; exact absurd (h 0 (Nat.le_refl _)) (by omega)
  | succ n ih =>
    intro g h
    by_cases hx : ∃ i, i ≤ n ∧ g i = g (n + 1)
    · obtain ⟨i, hi, e⟩ := hx
      exact ⟨i, n + 1, by omega, Nat.le_refl _, e⟩
    · have hne : ∀ i, i ≤ n → g i ≠ g (n + 1) := fun i hi e => hx ⟨i, hi, e⟩
      obtain ⟨i, j, h1, h2, h3⟩ := ih (fun k => if g k < g (n + 1) then g k else g k - 1) (fun k hk => by
        have a := h k (by omega); have b := h (n + 1) (Nat.le_refl _); have c := hne k hk
        show (if g k < g (n + 1) then g k else g k - 1) < n
        by_cases e : g k < g (n + 1)
        · rw [if_pos e]; omega
        · rw [if_neg e]; omega)
      refine ⟨i, j, h1, by omega, ?_⟩
      have c := hne i (by omega); have c' := hne j h2
      try simp only at h3
      split at h3 <;> split at h3 <;> omega
theorem Perm.onto {g : Nat → Nat} {n : Nat} (h : Perm g n) (i : Nat) (hi : i < n) : ∃ k, k < n ∧ g k = i := by
  cases n with
  | zero => omega
  | succ n =>
    refine Classical.byContradiction fun hx => ?_
    have hne : ∀ k, k < n + 1 → g k ≠ i := fun k hk e => hx ⟨k, hk, e⟩
    obtain ⟨a, b, h1, h2, h3⟩ := dove n (fun k => if g k < i then g k else g k - 1) (fun k hk => by
      have a := h.lt k (by omega); have c := hne k (by omega)
      show (if g k < i then g k else g k - 1) < n
      by_cases e : g k < i
      · rw [if_pos e]; omega
      · rw [if_neg e]; omega)
    have c := hne a (by omega); have c' := hne b (by omega)
    try simp only at h3
    have e : g a = g b := by split at h3 <;> split at h3 <;> omega
    have := h.inj a b (by omega) (by omega) e
    omega
theorem sum_perm (n : Nat) : ∀ (g : Nat → Nat), Perm g n → ∀ f : Nat → Int, sumN (fun k => f (g k)) n = sumN f n := by
  induction n with
  | zero => intros; rfl
  | succ n ih =>
    intro g h f
    by_cases e : g n = n
    · have hp : Perm g n := ⟨fun k hk => by
        have a := h.lt k (by omega)
        have b : g k ≠ n := fun e2 => by have := h.inj k n (by omega) (by omega) (by omega); omega
        omega, fun a b ha hb => h.inj a b (by omega) (by omega)⟩
      rw [sumN, sumN, ih g hp f, e]
    · obtain ⟨p, hp, ep⟩ := h.onto n (by omega)
      have hpn : p < n := by
        rcases Nat.lt_or_ge p n with h1 | h1
        · exact h1
        · exact absurd (by rw [show p = n by omega] at ep; exact ep) e
      have hgn : g n < n := by have := h.lt n (by omega); omega
      have ne : ∀ k, k < n → k ≠ p → g k ≠ n := fun k hk hkp e2 => hkp (h.inj k p (by omega) (by omega) (by omega))
      have hq : Perm (fun k => if k = p then g n else g k) n := ⟨fun k hk => by
        show (if k = p then g n else g k) < n
        by_cases e : k = p
        · rw [if_pos e]; exact hgn
        · rw [if_neg e]; have := ne k hk e; have := h.lt k (by omega); omega, fun a b ha hb hab => by
        try simp only at hab
        split at hab <;> split at hab
        · omega
        · have := h.inj n b (by omega) (by omega) hab; omega
        · have := h.inj a n (by omega) (by omega) hab; omega
        · exact h.inj a b (by omega) (by omega) hab⟩
      have := ih _ hq f
      rw [sumN_one (g := fun k => f (g k)) (p := p) hpn (fun k hk hkp => by simp only [if_neg hkp])] at this
      simp only [if_true, ep] at this
      rw [sumN, sumN]; omega
/-- the sum over a triangle of a table that is its own mirror -/
theorem tri (H : Nat → Nat → Int) (hs : ∀ i j, H i j = H j i) (n : Nat) : sumN (fun k => sumN (fun m => H k m) n) n = 2 * sumN (fun k => sumN (fun m => H k m) k) n + sumN (fun k => H k k) n := by
  induction n with
  | zero => rfl
  | succ n ih =>
    rw [sumN, sumN, sumN, show (fun k => sumN (fun m => H k m) (n + 1)) = fun k => sumN (fun m => H k m) n + H k n from rfl, sumN_add, ih]
    rw [show sumN (fun k => H k n) n = sumN (fun m => H n m) n from sumN_eq (fun k _ => hs k n)]
    rw [show sumN (fun k => H k k) (n + 1) = sumN (fun k => H k k) n + H n n from rfl]
    omega
theorem tri_perm (H : Nat → Nat → Int) (hs : ∀ i j, H i j = H j i) {n : Nat} {g : Nat → Nat} (hg : Perm g n) : sumN (fun k => sumN (fun m => H (g k) (g m)) k) n = sumN (fun k => sumN (fun m => H k m) k) n := by
  have a := tri (fun k m => H (g k) (g m)) (fun i j => hs _ _) n
  have b := tri H hs n
  have c : sumN (fun k => sumN (fun m => H (g k) (g m)) n) n = sumN (fun k => sumN (fun m => H k m) n) n := by
    rw [sumN_eq (fun k hk => sum_perm n g hg (fun j => H (g k) j))]
    exact sum_perm n g hg (fun i => sumN (fun m => H i m) n)
  have d := sum_perm n g hg (fun i => H i i)
  try simp only at d
  omega
/-- what a job costs by its end, in the order g -/
def costS (w p : Nat → Int) (g : Nat → Nat) (n : Nat) : Int := sumN (fun k => w (g k) * sumN (fun m => p (g m)) (k + 1)) n
theorem costS_tri (w p : Nat → Int) (g : Nat → Nat) (n : Nat) : costS w p g n = sumN (fun k => sumN (fun m => w (g k) * p (g m)) k) n + sumN (fun k => w (g k) * p (g k)) n := by
  rw [costS, ← sumN_add]
  refine sumN_eq fun k _ => ?_
  show _ = sumN (fun m => w (g k) * p (g m)) k + w (g k) * p (g k)
  rw [sumN_mul, sumN, Int.mul_add]
/-- Smith's rule -/
theorem smith (w p : Nat → Int) {o q : Nat → Nat} {n : Nat} (ho : Perm o n) (hq : Perm q n) (h : ∀ a b, a < b → b < n → w (o b) * p (o a) ≤ w (o a) * p (o b)) : costS w p o n ≤ costS w p q n := by
  have hs : ∀ i j, min (w i * p j) (w j * p i) = min (w j * p i) (w i * p j) := fun i j => by omega
  have t1 := tri_perm (fun i j => min (w i * p j) (w j * p i)) hs ho
  have t2 := tri_perm (fun i j => min (w i * p j) (w j * p i)) hs hq
  have d1 := sum_perm n o ho (fun i => w i * p i)
  have d2 := sum_perm n q hq (fun i => w i * p i)
  have u1 : sumN (fun k => sumN (fun m => w (o k) * p (o m)) k) n = sumN (fun k => sumN (fun m => min (w (o k) * p (o m)) (w (o m) * p (o k))) k) n :=
    sumN_eq fun k hk => sumN_eq fun m hm => by have := h m k hm hk; omega
  have u2 : sumN (fun k => sumN (fun m => min (w (q k) * p (q m)) (w (q m) * p (q k))) k) n ≤ sumN (fun k => sumN (fun m => w (q k) * p (q m)) k) n :=
    sumN_le fun k hk => sumN_le fun m hm => by omega
  rw [costS_tri, costS_tri]
  try simp only at t1 t2 d1 d2
  omega
/-- the last place in q of the first k + 1 of o -/
theorem lastAt_of {o q : Nat → Nat} {n : Nat} (ho : Perm o n) (hq : Perm q n) (k : Nat) (hk : k < n) : ∃ m a, m < n ∧ a ≤ k ∧ o a = q m ∧ ∀ b r, b ≤ k → r < n → q r = o b → r ≤ m := by
  induction k with
  | zero =>
    obtain ⟨m, hm, e⟩ := hq.onto (o 0) (ho.lt 0 hk)
    refine ⟨m, 0, hm, Nat.le_refl _, e.symm, fun b r hb hr e2 => ?_⟩
    have : b = 0 := by omega
    subst this
    have := hq.inj r m hr hm (by omega)
    omega
  | succ k ih =>
    obtain ⟨m, a, hm, ha, e, hl⟩ := ih (by omega)
    obtain ⟨m2, hm2, e2⟩ := hq.onto (o (k + 1)) (ho.lt _ hk)
    have key : ∀ b r, b ≤ k + 1 → r < n → q r = o b → r ≤ m ∨ r = m2 := fun b r hb hr e3 => by
      by_cases eb : b = k + 1
      · subst eb; exact .inr (hq.inj r m2 hr hm2 (by omega))
      · exact .inl (hl b r (by omega) hr e3)
    rcases Nat.le_total m m2 with h1 | h1
    · exact ⟨m2, k + 1, hm2, Nat.le_refl _, e2.symm, fun b r hb hr e3 => by rcases key b r hb hr e3 with h | h <;> omega⟩
    · exact ⟨m, a, hm, by omega, e, fun b r hb hr e3 => by rcases key b r hb hr e3 with h | h <;> omega⟩
/-- the order by due ends: what is latest there is no later than what is latest in another order -/
theorem edd (p d : Nat → Int) {o q : Nat → Nat} {n : Nat} (hp : ∀ i, i < n → 0 ≤ p i) (ho : Perm o n) (hq : Perm q n) (h : ∀ a b, a < b → b < n → d (o a) ≤ d (o b)) (k : Nat) (hk : k < n) :
    ∃ m, m < n ∧ sumN (fun m => p (o m)) (k + 1) - d (o k) ≤ sumN (fun r => p (q r)) (m + 1) - d (q m) := by
  obtain ⟨m, a, hm, ha, e, hl⟩ := lastAt_of ho hq k hk
  refine ⟨m, hm, ?_⟩
  have hd : d (q m) ≤ d (o k) := by
    rw [← e]
    rcases Nat.lt_or_ge a k with h1 | h1
    · exact h a k h1 hk
    · rw [show a = k by omega]; exact Int.le_refl _
  let B : Nat → Bool := fun i => (List.range (k + 1)).any fun b => o b == i
  have hB : ∀ i, B i = true ↔ ∃ b, b ≤ k ∧ o b = i := fun i => by
    simp only [B, List.any_eq_true, List.mem_range, beq_iff_eq]
    exact ⟨fun ⟨b, h1, h2⟩ => ⟨b, by omega, h2⟩, fun ⟨b, h1, h2⟩ => ⟨b, by omega, h2⟩⟩
  let P : Nat → Int := fun i => if B i then p i else 0
  have s1 : sumN (fun m => p (o m)) (k + 1) = sumN (fun m => P (o m)) (k + 1) := sumN_eq fun j hj => by
    simp only [P]; rw [if_pos ((hB _).2 ⟨j, by omega, rfl⟩)]
  have pos : ∀ i, i < n → 0 ≤ P i := fun i hi => by simp only [P]; split; exact hp i hi; exact Int.le_refl _
  have s2 : sumN (fun m => P (o m)) (k + 1) ≤ sumN (fun m => P (o m)) n := sumN_mono (by omega) (fun j hj => pos _ (ho.lt j hj))
  have s3 := sum_perm n o ho P
  have s4 := sum_perm n q hq P
  have s5 : sumN (fun r => P (q r)) n = sumN (fun r => P (q r)) (m + 1) := sumN_rest (by omega) fun j h1 h2 => by
    simp only [P]
    rw [if_neg]
    intro hb
    obtain ⟨b, hb1, hb2⟩ := (hB _).1 hb
    have := hl b j hb1 h2 hb2.symm
    omega
  have s6 : sumN (fun r => P (q r)) (m + 1) ≤ sumN (fun r => p (q r)) (m + 1) := sumN_le fun j hj => by
    simp only [P]; split
    · exact Int.le_refl _
    · exact hp _ (hq.lt j (by omega))
  omega
end Go.Proofs.Ytkdjeneogclocaa.Plain
