/- How many are under way at once: no fewer than any that meet in pairs, no more than there are numbers. No program stands here. -/
import Derived.Test.YtjddlgmdbkaieaaTripV
namespace Go.Proofs.Ytjddlgmdbkaieaa.Plain
set_option linter.unusedVariables false
set_option linter.unusedSimpArgs false
def cntG (St E : Nat → Int) (t : Int) : Nat → Int
  | 0 => 0
  | k + 1 => cntG St E t k + if St k ≤ t ∧ t < E k then 1 else 0
def mostG (St E : Nat → Int) (n : Nat) : Nat → Int
  | 0 => 0
  | k + 1 => max (mostG St E n k) (cntG St E (St k) n)
theorem cnt_filter (St E : Nat → Int) (t : Int) (k : Nat) : cntG St E t k = ((List.range k).filter fun j => decide (St j ≤ t ∧ t < E j)).length := by
  induction k with
  | zero => rfl
  | succ k ih =>
    rw [cntG, ih, List.range_succ, List.filter_append, List.length_append]
    by_cases h : St k ≤ t ∧ t < E k
    · rw [if_pos h, List.filter_cons_of_pos (by rw [decide_eq_true_eq]; exact h)]; rfl
    · rw [if_neg h, List.filter_cons_of_neg (by rw [decide_eq_true_eq]; exact h)]; rfl
theorem most_at (St E : Nat → Int) (n : Nat) {j k : Nat} (h : j < k) : cntG St E (St j) n ≤ mostG St E n k := by
  induction k with
  | zero => omega
  | succ k ih =>
    rw [mostG]
    by_cases e : j = k
    · subst e; omega
    · have := ih (by omega); omega
theorem most_all (St E : Nat → Int) (n : Nat) {c : Int} (hc : 0 ≤ c) (k : Nat) (h : ∀ j, j < k → cntG St E (St j) n ≤ c) : mostG St E n k ≤ c := by
  induction k with
  | zero => exact hc
  | succ k ih =>
    have h1 := ih (fun j hj => h j (by omega))
    have h2 := h k (by omega)
    rw [mostG]; omega
theorem last_of (St : Nat → Int) (A : List Nat) (h : A ≠ []) : ∃ a ∈ A, ∀ b ∈ A, St b ≤ St a := by
  induction A with
  | nil => exact absurd rfl h
  | cons x A ih =>
    by_cases hA : A = []
    · subst hA
      exact ⟨x, by simp, fun b hb => by rw [List.mem_singleton.1 hb]; exact Int.le_refl _⟩
    · obtain ⟨a, h1, h2⟩ := ih hA
      by_cases hx : St a ≤ St x
      · refine ⟨x, by simp, fun b hb => ?_⟩
        rcases List.mem_cons.1 hb with rfl | hb
        · exact Int.le_refl _
        · exact Int.le_trans (h2 b hb) hx
      · refine ⟨a, by simp [h1], fun b hb => ?_⟩
        rcases List.mem_cons.1 hb with rfl | hb
        · omega
        · exact h2 b hb
theorem most_ge {St E : Nat → Int} {n : Nat} {A : List Nat} (hn : A.Nodup) (hA : ∀ v ∈ A, v < n) (hp : ∀ u ∈ A, ∀ v ∈ A, ¬ E u ≤ St v) : (A.length : Int) ≤ mostG St E n n := by
  by_cases h0 : A = []
  · subst h0
    have : ∀ k, 0 ≤ mostG St E n k := fun k => by
      induction k with
      | zero => exact Int.le_refl _
      | succ k ih => rw [mostG]; omega
    simpa using this n
  · obtain ⟨a, h1, h2⟩ := last_of St A h0
    refine Int.le_trans ?_ (most_at St E n (hA a h1))
    rw [cnt_filter]
    have := nodup_sub hn (l2 := (List.range n).filter fun j => decide (St j ≤ St a ∧ St a < E j)) (fun x hx => by
      rw [List.mem_filter, List.mem_range, decide_eq_true_eq]
      have h3 := hp x hx a h1
      exact ⟨hA x hx, h2 x hx, by omega⟩)
    omega
theorem cnt_le {St E : Nat → Int} {n : Nat} {ct : Nat} {veh : Nat → Int} (hv : ∀ x, x < n → 0 ≤ veh x ∧ veh x < ct) (ha : ∀ x y, x < n → y < n → x ≠ y → veh x = veh y → E x ≤ St y ∨ E y ≤ St x) (t : Int) : cntG St E t n ≤ ct := by
  rw [cnt_filter]
  obtain ⟨W, hW⟩ : ∃ W, W = (List.range n).filter fun j => decide (St j ≤ t ∧ t < E j) := ⟨_, rfl⟩
  rw [← hW]
  have mW : ∀ j ∈ W, j < n ∧ St j ≤ t ∧ t < E j := fun j hj => by
    rw [hW, List.mem_filter, List.mem_range, decide_eq_true_eq] at hj; exact hj
  have nW : W.Nodup := by rw [hW]; exact List.nodup_range.filter _
  have nM : (W.map fun j => (veh j).toNat).Nodup := map_nodup nW (fun a ha' b hb e => by
    obtain ⟨a1, a2, a3⟩ := mW a ha'
    obtain ⟨b1, b2, b3⟩ := mW b hb
    rcases Nat.decEq a b with hne | he
    · exfalso
      have h1 := hv a a1
      have h2 := hv b b1
      rcases ha a b a1 b1 hne (by omega) with h | h <;> omega
    · exact he)
  have := nodup_sub nM (l2 := List.range ct) (fun x hx => by
    obtain ⟨j, hj, rfl⟩ := List.mem_map.1 hx
    have := hv j (mW j hj).1
    rw [List.mem_range]; omega)
  rw [List.length_map, List.length_range] at this
  omega
theorem most_le {St E : Nat → Int} {n : Nat} {ct : Nat} {veh : Nat → Int} (hv : ∀ x, x < n → 0 ≤ veh x ∧ veh x < ct) (ha : ∀ x y, x < n → y < n → x ≠ y → veh x = veh y → E x ≤ St y ∨ E y ≤ St x) : mostG St E n n ≤ ct :=
  most_all St E n (by omega) n (fun j _ => cnt_le hv ha (St j))
/-- where all are one behind the other, one at most is under way -/
theorem most_one {St E : Nat → Int} {n : Nat} (h1 : 1 ≤ n) (hse : ∀ x, x < n → St x < E x) (ha : ∀ x y, x < n → y < n → x ≠ y → E x ≤ St y ∨ E y ≤ St x) : mostG St E n n = 1 := by
  have h2 := most_le (St := St) (E := E) (n := n) (ct := 1) (veh := fun _ => 0) (fun x _ => ⟨by omega, by omega⟩) (fun x y hx hy hne _ => ha x y hx hy hne)
  have h3 := most_ge (St := St) (E := E) (n := n) (A := [0]) (by simp) (fun v hv => by rw [List.mem_singleton.1 hv]; omega) (fun u hu v hv => by
    rw [List.mem_singleton.1 hu, List.mem_singleton.1 hv]
    have := hse 0 (by omega)
    omega)
  simp only [List.length_singleton] at h3
  omega
end Go.Proofs.Ytjddlgmdbkaieaa.Plain
