/- Batches of jobs: what a plan costs, and a table of the least. No program stands here. -/
import Derived.Test.YtkdjeneogclocaaPlain
import Derived.Test.YtkdjeneogclocaaRulE
namespace Go.Proofs.Ytkdjeneogclocaa.Plain
set_option linter.unusedVariables false
set_option linter.unusedSimpArgs false
/-- what batches cost, the last one first -/
def bcost (T W : Nat → Int) (ch : Int) : List Nat → Int
  | [] => 0
  | s :: r => bcost T W ch r + (W (s + r.sum) - W r.sum) * (((r.length + 1 : Nat) : Int) * ch + T (s + r.sum))
def okS (m : Nat) (s : List Nat) : Prop := ∀ x ∈ s, 1 ≤ x ∧ x ≤ m
/-- times and weights up to n -/
structure TWok (T W : Nat → Int) (n : Nat) : Prop where
  t0 : ∀ k, k ≤ n → 0 ≤ T k ∧ T k ≤ 60
  w0 : ∀ j k, j ≤ k → k ≤ n → W j ≤ W k
  w1 : ∀ k, k ≤ n → 0 ≤ W k ∧ W k ≤ 60
theorem sum_len {m : Nat} : ∀ s : List Nat, okS m s → s.length ≤ s.sum
  | [], _ => by simp
  | x :: s, h => by
    have h1 := sum_len s fun y hy => h y (List.mem_cons_of_mem _ hy)
    have h2 := (h x (List.mem_cons_self ..)).1
    simp; omega
theorem okS_tail {m x : Nat} {s : List Nat} (h : okS m (x :: s)) : okS m s := fun y hy => h y (List.mem_cons_of_mem _ hy)
theorem step_bd {T W : Nat → Int} {n : Nat} (h : TWok T W n) {ch : Int} (c0 : 0 ≤ ch) (c1 : ch ≤ 10) {j k b : Nat} (hjk : j ≤ k) (hk : k ≤ n) (hb : b ≤ 9) : 0 ≤ (W k - W j) * ((b : Int) * ch + T k) ∧ (W k - W j) * ((b : Int) * ch + T k) ≤ 10000 := by
  have h1 := h.w0 j k hjk hk
  have h2 := h.w1 k hk
  have h3 := h.w1 j (by omega)
  have h4 := h.t0 k hk
  have h5 : 0 ≤ (b : Int) * ch := Int.mul_nonneg (by omega) c0
  have h6 : (b : Int) * ch ≤ 9 * 10 := Int.mul_le_mul (by omega) c1 c0 (by omega)
  refine ⟨Int.mul_nonneg (by omega) (by omega), ?_⟩
  have h7 : (W k - W j) * ((b : Int) * ch + T k) ≤ 60 * 150 := Int.mul_le_mul (by omega) (by omega) (by omega) (by omega)
  omega
theorem bcost_bd {T W : Nat → Int} {n : Nat} (h : TWok T W n) (n9 : n ≤ 9) {ch : Int} (c0 : 0 ≤ ch) (c1 : ch ≤ 10) {m : Nat} : ∀ s : List Nat, okS m s → s.sum ≤ n → 0 ≤ bcost T W ch s ∧ bcost T W ch s ≤ 10000 * s.length
  | [], _, _ => by simp [bcost]
  | x :: r, ho, hs => by
    have h1 := sum_len _ ho
    rw [List.sum_cons] at hs h1
    rw [List.length_cons] at h1
    have h2 := bcost_bd h n9 c0 c1 r (okS_tail ho) (by omega)
    have h3 := step_bd h c0 c1 (j := r.sum) (k := x + r.sum) (b := r.length + 1) (by omega) hs (by omega)
    rw [bcost, List.length_cons]
    push_cast at *
    omega
theorem bcost_less {T W : Nat → Int} {n : Nat} (h : TWok T W n) {ch : Int} (c0 : 0 ≤ ch) {m : Nat} : ∀ s : List Nat, s.sum ≤ n → bcost T W 0 s ≤ bcost T W ch s
  | [], _ => by simp [bcost]
  | x :: r, hs => by
    rw [List.sum_cons] at hs
    have h1 := bcost_less h c0 (m := m) r (by omega)
    have h2 := h.w0 r.sum (x + r.sum) (by omega) hs
    rw [bcost, bcost]
    have h3 : 0 ≤ ((r.length + 1 : Nat) : Int) * ch := Int.mul_nonneg (by omega) c0
    have h4 : (W (x + r.sum) - W r.sum) * (((r.length + 1 : Nat) : Int) * 0 + T (x + r.sum)) ≤ (W (x + r.sum) - W r.sum) * (((r.length + 1 : Nat) : Int) * ch + T (x + r.sum)) := Int.mul_le_mul_of_nonneg_left (by omega) (by omega)
    omega
/-- a place of the table: the cost and the sizes, if there is a plan -/
abbrev BCell := Option (Int × List Nat)
structure BGood (T W : Nat → Int) (ch : Int) (m k b : Nat) (x : BCell) : Prop where
  ok : ∀ c s, x = some (c, s) → okS m s ∧ s.sum = k ∧ s.length = b ∧ bcost T W ch s = c
/-- it is no worse than all that end with a batch below z -/
structure Best (T W : Nat → Int) (ch : Int) (m k b z : Nat) (x : BCell) : Prop where
  ok : ∀ y r, y < z → okS m (y :: r) → (y :: r).sum = k → (y :: r).length = b → ∃ c s, x = some (c, s) ∧ c ≤ bcost T W ch (y :: r)
structure Full (T W : Nat → Int) (ch : Int) (m k b : Nat) (x : BCell) : Prop where
  good : BGood T W ch m k b x
  ok : ∀ s, okS m s → s.sum = k → s.length = b → ∃ c s', x = some (c, s') ∧ c ≤ bcost T W ch s
/-- which of two is taken -/
def PickA (a b : BCell) : Prop := b = none ∨ ∃ c1 s1 c2 s2, a = some (c1, s1) ∧ b = some (c2, s2) ∧ c1 ≤ c2
def PickB (a b : BCell) : Prop := ∃ c2 s2, b = some (c2, s2) ∧ ∀ c1 s1, a = some (c1, s1) → c2 ≤ c1
variable {T W : Nat → Int} {ch : Int} {m : Nat}
theorem BGood.none (k b : Nat) : BGood T W ch m k b none := ⟨fun c s h => by cases h⟩
theorem Best.start (k b : Nat) (x : BCell) : Best T W ch m k b 1 x := ⟨fun y r h1 h2 => by have := (h2 y (List.mem_cons_self ..)).1; omega⟩
theorem full_zero : Full T W ch m 0 0 (some (0, [])) := ⟨⟨fun c s h => by cases h; exact ⟨fun x hx => (by cases hx), rfl, rfl, rfl⟩⟩, fun s h1 h2 h3 => by
  obtain rfl : s = [] := List.length_eq_zero_iff.1 h3
  exact ⟨0, [], rfl, by simp [bcost]⟩⟩
theorem full_off {k b : Nat} (h : b = 0 ∧ 0 < k ∨ k < b) : Full T W ch m k b none := ⟨BGood.none k b, fun s h1 h2 h3 => by
  exfalso
  have h4 := sum_len s h1
  rcases h with ⟨h, h5⟩ | h
  · obtain rfl : s = [] := List.length_eq_zero_iff.1 (by omega)
    simp at h2; omega
  · omega⟩
/-- no plan with a last batch z -/
theorem Best.skip {k b z : Nat} {x : BCell} (hx : Best T W ch m k b z x) (hz : z ≤ k) (hp : Full T W ch m (k - z) (b - 1) none) : Best T W ch m k b (z + 1) x := ⟨fun y r h1 h2 h3 h4 => by
  by_cases he : y = z
  · subst he
    rw [List.sum_cons] at h3
    rw [List.length_cons] at h4
    obtain ⟨c, s, h5, _⟩ := hp.ok r (okS_tail h2) (by omega) (by omega)
    cases h5
  · exact hx.ok y r (by omega) h2 h3 h4⟩
/-- the plan with a last batch z -/
theorem now_good {k b z : Nat} {c0 : Int} {s0 : List Nat} (hz1 : 1 ≤ z) (hz : z ≤ k) (hzm : z ≤ m) (hb : 1 ≤ b) (hp : Full T W ch m (k - z) (b - 1) (some (c0, s0))) : BGood T W ch m k b (some (c0 + (W k - W (k - z)) * ((b : Int) * ch + T k), z :: s0)) := ⟨fun c s h => by
  cases h
  obtain ⟨h1, h2, h3, h4⟩ := hp.good.ok _ _ rfl
  refine ⟨fun x hx => ?_, by rw [List.sum_cons]; omega, by rw [List.length_cons]; omega, ?_⟩
  · rcases List.mem_cons.1 hx with rfl | hx
    · exact ⟨hz1, hzm⟩
    · exact h1 x hx
  · rw [bcost, h4, h2, show z + (k - z) = k by omega, show s0.length + 1 = b by omega]⟩
theorem now_best {k b z : Nat} {c0 : Int} {s0 : List Nat} (hz : z ≤ k) (hb : 1 ≤ b) (hp : Full T W ch m (k - z) (b - 1) (some (c0, s0))) {r : List Nat} (h1 : okS m (z :: r)) (h2 : (z :: r).sum = k) (h3 : (z :: r).length = b) : c0 + (W k - W (k - z)) * ((b : Int) * ch + T k) ≤ bcost T W ch (z :: r) := by
  rw [List.sum_cons] at h2
  rw [List.length_cons] at h3
  obtain ⟨c, s, h5, h6⟩ := hp.ok r (okS_tail h1) (by omega) (by omega)
  cases h5
  rw [bcost, show z + r.sum = k by omega, show r.sum = k - z by omega, show r.length + 1 = b by omega]
  omega
theorem Best.takeA {k b z : Nat} {x now : BCell} {c0 : Int} {s0 : List Nat} (hx : Best T W ch m k b z x) (hz : z ≤ k) (hb : 1 ≤ b) (hp : Full T W ch m (k - z) (b - 1) (some (c0, s0))) (hn : now = some (c0 + (W k - W (k - z)) * ((b : Int) * ch + T k), z :: s0)) (ha : PickA x now) : Best T W ch m k b (z + 1) x := ⟨fun y r h1 h2 h3 h4 => by
  by_cases he : y = z
  · subst he
    have h5 := now_best hz hb hp h2 h3 h4
    rcases ha with h6 | ⟨c1, s1, c2, s2, h6, h7, h8⟩
    · rw [hn] at h6; cases h6
    · rw [hn] at h7
      cases h7
      exact ⟨c1, s1, h6, by omega⟩
  · exact hx.ok y r (by omega) h2 h3 h4⟩
theorem Best.takeB {k b z : Nat} {x now : BCell} {c0 : Int} {s0 : List Nat} (hx : Best T W ch m k b z x) (hz : z ≤ k) (hb : 1 ≤ b) (hp : Full T W ch m (k - z) (b - 1) (some (c0, s0))) (hn : now = some (c0 + (W k - W (k - z)) * ((b : Int) * ch + T k), z :: s0)) (ha : PickB x now) : Best T W ch m k b (z + 1) now := ⟨fun y r h1 h2 h3 h4 => by
  by_cases he : y = z
  · subst he
    have h5 := now_best hz hb hp h2 h3 h4
    exact ⟨_, _, hn, h5⟩
  · obtain ⟨c1, s1, h5, h6⟩ := hx.ok y r (by omega) h2 h3 h4
    obtain ⟨c2, s2, h7, h8⟩ := ha
    have := h8 c1 s1 h5
    exact ⟨c2, s2, h7, by omega⟩⟩
theorem Best.full {k b z : Nat} {x : BCell} (hx : Best T W ch m k b z x) (hg : BGood T W ch m k b x) (hb : 1 ≤ b) (hz : k < z ∨ m < z) : Full T W ch m k b x := ⟨hg, fun s h1 h2 h3 => by
  cases s with
  | nil => simp at h3; omega
  | cons y r =>
    have h4 := h1 y (List.mem_cons_self ..)
    refine hx.ok y r ?_ h1 h2 h3
    rw [List.sum_cons] at h2
    omega⟩
/-- the best of the first places of a row -/
structure RowBest (T W : Nat → Int) (ch : Int) (m k b : Nat) (M : Nat → BCell) (x : BCell) : Prop where
  good : ∀ c s, x = some (c, s) → okS m s ∧ s.sum = k ∧ bcost T W ch s = c
  ok : ∀ b' c s, b' < b → M b' = some (c, s) → ∃ c1 s1, x = some (c1, s1) ∧ c1 ≤ c
theorem RowBest.start (k : Nat) (M : Nat → BCell) : RowBest T W ch m k 0 M none := ⟨(fun c s h => by cases h), fun b' c s h => by omega⟩
theorem RowBest.takeA {k b : Nat} {M : Nat → BCell} {x : BCell} (h : RowBest T W ch m k b M x) (ha : PickA x (M b)) : RowBest T W ch m k (b + 1) M x := ⟨h.good, fun b' c s h1 h2 => by
  by_cases he : b' = b
  · subst he
    rcases ha with h3 | ⟨c1, s1, c2, s2, h3, h4, h5⟩
    · rw [h3] at h2; cases h2
    · rw [h4] at h2
      cases h2
      exact ⟨c1, s1, h3, h5⟩
  · exact h.ok b' c s (by omega) h2⟩
theorem RowBest.takeB {k b : Nat} {M : Nat → BCell} {x : BCell} (h : RowBest T W ch m k b M x) (hf : Full T W ch m k b (M b)) (ha : PickB x (M b)) : RowBest T W ch m k (b + 1) M (M b) := ⟨fun c s h1 => by
  obtain ⟨h2, h3, _, h4⟩ := hf.good.ok c s h1
  exact ⟨h2, h3, h4⟩, fun b' c s h1 h2 => by
  obtain ⟨c2, s2, h7, h8⟩ := ha
  by_cases he : b' = b
  · subst he
    exact ⟨c, s, h2, Int.le_refl _⟩
  · obtain ⟨c1, s1, h5, h6⟩ := h.ok b' c s (by omega) h2
    have := h8 c1 s1 h5
    exact ⟨c2, s2, h7, by omega⟩⟩
/-- what a plan of batches is -/
structure BPlan (T W : Nat → Int) (ch : Int) (m n : Nat) (c : Int) (s : List Nat) : Prop where
  ok : okS m s
  sum : s.sum = n
  cost : bcost T W ch s = c
  best : ∀ s', okS m s' → s'.sum = n → c ≤ bcost T W ch s'
theorem RowBest.plan {n : Nat} {M : Nat → BCell} {x : BCell} (h : RowBest T W ch m n (n + 1) M x) (hf : ∀ b, b ≤ n → Full T W ch m n b (M b)) (hm : 1 ≤ m) : ∃ c s, x = some (c, s) ∧ BPlan T W ch m n c s := by
  have key : ∀ s', okS m s' → s'.sum = n → ∃ c s, x = some (c, s) ∧ c ≤ bcost T W ch s' := fun s' h1 h2 => by
    have h3 := sum_len s' h1
    obtain ⟨c, s, h4, h5⟩ := (hf s'.length (by omega)).ok s' h1 h2 rfl
    obtain ⟨c1, s1, h6, h7⟩ := h.ok _ c s (by omega) h4
    exact ⟨c1, s1, h6, by omega⟩
  obtain ⟨c, s, h1, _⟩ := key (List.replicate n 1) (fun y hy => by rw [List.eq_of_mem_replicate hy]; omega) (by simp)
  obtain ⟨h2, h3, h4⟩ := h.good c s h1
  refine ⟨c, s, h1, h2, h3, h4, fun s' h5 h6 => ?_⟩
  obtain ⟨c', s'', h7, h8⟩ := key s' h5 h6
  rw [h1] at h7
  cases h7
  exact h8
theorem plan_free {n : Nat} (h : TWok T W n) {c c' : Int} {s s' : List Nat} (hc : 0 ≤ ch) (h0 : BPlan T W 0 m n c s) (h1 : BPlan T W ch m n c' s') : c ≤ c' := by
  have h2 := h0.best s' h1.ok h1.sum
  have h3 := bcost_less h hc (m := m) s' (by rw [h1.sum]; exact Nat.le_refl _)
  have := h1.cost
  omega
end Go.Proofs.Ytkdjeneogclocaa.Plain
