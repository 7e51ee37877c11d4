/- Models mixed evenly: plain facts. No program stands here. -/
import Derived.Test.YtgjjbnjahombdaaLinA
namespace Go.Proofs.Ytgjjbnjahombdaa.Plain
set_option linter.unusedVariables false
set_option linter.unusedSimpArgs false
/-- how often i stands among the first k -/
def cntO (od : Nat → Nat) (k i : Nat) : Nat := ldN (fun j => od j == i) (fun _ => 1) k
theorem cntO_succ (od : Nat → Nat) (k i : Nat) : cntO od (k + 1) i = cntO od k i + if od k = i then 1 else 0 := by
  unfold cntO
  rw [ldN]
  by_cases h : od k = i
  · simp [h]
  · simp [h]
theorem cntO_same {u v : Nat → Nat} {k i : Nat} (h : ∀ j, j < k → u j = v j) : cntO u k i = cntO v k i := ldN_same fun j hj => by rw [h j hj]
theorem sumN_ones : ∀ k, sumN (fun _ => 1) k = k
  | 0 => rfl
  | k + 1 => by rw [sumN, sumN_ones k]
theorem cntO_sum {od : Nat → Nat} {n k : Nat} (h : ∀ j, j < k → od j < n) : sumN (cntO od k) n = k := by
  have := sum_loads (t := fun _ => 1) (A := od) (K := n) (n := k) h
  rw [sumN_ones] at this
  exact this
theorem sumZ_lin (a b : Int) (u v : Nat → Int) : ∀ n, sumZ (fun i => a * u i - b * v i) n = a * sumZ u n - b * sumZ v n
  | 0 => by simp [sumZ]
  | n + 1 => by
    rw [sumZ, sumZ, sumZ, sumZ_lin a b u v n, Int.mul_add, Int.mul_add]
    omega
theorem sumZ_pos {v : Nat → Int} : ∀ {n}, 0 < sumZ v n → ∃ i, i < n ∧ 0 < v i
  | 0, h => by simp [sumZ] at h
  | n + 1, h => by
    rw [sumZ] at h
    by_cases hv : 0 < v n
    · exact ⟨n, by omega, hv⟩
    · obtain ⟨i, h1, h2⟩ := sumZ_pos (v := v) (n := n) (by omega)
      exact ⟨i, by omega, h2⟩
theorem sumZ_low {v : Nat → Int} {N : Int} (N0 : 0 ≤ N) : ∀ {n}, (∀ i, i < n → -N < v i) → -(N * (n : Int)) ≤ sumZ v n
  | 0, _ => by simp [sumZ]
  | n + 1, h => by
    have h1 := sumZ_low N0 (n := n) fun i hi => h i (by omega)
    have h2 := h n (by omega)
    rw [sumZ]
    push_cast
    rw [Int.mul_add, Int.mul_one]
    omega
theorem sumZ_one_up {v : Nat → Int} {N : Int} (N0 : 0 ≤ N) {i : Nat} : ∀ {n}, i < n → (∀ i, i < n → -N < v i) → v i - N * (n : Int) ≤ sumZ v n
  | 0, h, _ => by omega
  | n + 1, hi, h => by
    rw [sumZ]
    have h2 := h n (by omega)
    push_cast
    rw [Int.mul_add, Int.mul_one]
    by_cases e : i = n
    · subst e
      have h1 := sumZ_low N0 (n := i) fun j hj => h j (by omega)
      omega
    · have h1 := sumZ_one_up (v := v) (i := i) N0 (n := n) (by omega) fun j hj => h j (by omega)
      omega
/-- how late model i is behind k places -/
def lagF (f : Nat → Nat) (N : Nat) (od : Nat → Nat) (k i : Nat) : Int := (k : Int) * (f i : Int) - (N : Int) * (cntO od k i : Int)
theorem lag_sum {f : Nat → Nat} {N n k : Nat} {od : Nat → Nat} (hN : sumN f n = N) (h : ∀ j, j < k → od j < n) (a : Int) : sumZ (fun i => a * (f i : Int) - (N : Int) * (cntO od k i : Int)) n = a * (N : Int) - (N : Int) * (k : Int) := by
  rw [sumZ_lin a N (fun i => (f i : Int)) (fun i => (cntO od k i : Int)), sumZ_nat, sumZ_nat, hN, cntO_sum h]
/-- what stands while models are mixed -/
structure MixI (f : Nat → Nat) (n N : Nat) (od : Nat → Nat) (k : Nat) : Prop where
  lt : ∀ j, j < k → od j < n
  le : ∀ i, i < n → cntO od k i ≤ f i
  lo : ∀ k', k' ≤ k → ∀ i, i < n → -(N : Int) < lagF f N od k' i
theorem MixI.start {f : Nat → Nat} {n N : Nat} {od : Nat → Nat} (hN : 0 < N) : MixI f n N od 0 :=
  ⟨fun j hj => by omega, fun i hi => by simp [cntO, ldN], fun k' hk i hi => by
    obtain rfl : k' = 0 := by omega
    rw [lagF]; simp [cntO, ldN]; omega⟩
/-- a model that may be next -/
def lateF (f : Nat → Nat) (N : Nat) (od : Nat → Nat) (k i : Nat) : Int := ((k : Int) + 1) * (f i : Int) - (N : Int) * (cntO od k i : Int)
theorem MixI.some {f : Nat → Nat} {n N : Nat} {od : Nat → Nat} {k : Nat} (h : MixI f n N od k) (hN : sumN f n = N) (hk : k < N) : ∃ i, i < n ∧ cntO od k i < f i ∧ 0 < lateF f N od k i := by
  have h1 := lag_sum (f := f) (N := N) (n := n) hN h.lt ((k : Int) + 1)
  have h2 : ((k : Int) + 1) * (N : Int) - (N : Int) * (k : Int) = N := by rw [Int.add_mul, Int.one_mul, Int.mul_comm (N : Int) k]; omega
  rw [h2] at h1
  obtain ⟨i, h3, h4⟩ := sumZ_pos (v := fun i => ((k : Int) + 1) * (f i : Int) - (N : Int) * (cntO od k i : Int)) (n := n) (by rw [h1]; omega)
  refine ⟨i, h3, ?_, h4⟩
  rcases Nat.lt_or_ge (cntO od k i) (f i) with h5 | h5
  · exact h5
  · exfalso
    have h6 := h.le i h3
    have h7 : cntO od k i = f i := by omega
    rw [h7] at h4
    have h8 : ((k : Int) + 1) * (f i : Int) ≤ (N : Int) * (f i : Int) := Int.mul_le_mul_of_nonneg_right (by omega) (by omega)
    omega
theorem MixI.next {f : Nat → Nat} {n N : Nat} {od : Nat → Nat} {k b : Nat} (h : MixI f n N od k) (hb : b < n) (hc : cntO od k b < f b) (hl : 0 < lateF f N od k b) : MixI f n N (fun j => if j = k then b else od j) (k + 1) := by
  have hs : ∀ k', k' ≤ k → ∀ i, cntO (fun j => if j = k then b else od j) k' i = cntO od k' i := fun k' hk' i => cntO_same fun j hj => by rw [if_neg (by omega)]
  have hc1 : ∀ i, cntO (fun j => if j = k then b else od j) (k + 1) i = cntO od k i + if b = i then 1 else 0 := fun i => by rw [cntO_succ, hs k (Nat.le_refl _), if_pos rfl]
  refine ⟨fun j hj => ?_, fun i hi => ?_, fun k' hk' i hi => ?_⟩
  · by_cases e : j = k
    · rw [if_pos e]; exact hb
    · rw [if_neg e]; exact h.lt j (by omega)
  · rw [hc1]
    have := h.le i hi
    by_cases e : b = i
    · subst e; rw [if_pos rfl]; omega
    · rw [if_neg e]; omega
  · by_cases e : k' = k + 1
    · subst e
      rw [lagF, hc1]
      by_cases e2 : b = i
      · subst e2
        rw [if_pos rfl]
        rw [lateF] at hl
        push_cast
        rw [Int.mul_add, Int.mul_one]
        omega
      · have h1 := h.lo k (Nat.le_refl _) i hi
        rw [lagF] at h1
        rw [if_neg e2]
        push_cast
        simp only [Int.add_zero]
        rw [Int.add_mul, Int.one_mul]
        omega
    · rw [lagF, hs k' (by omega)]
      exact h.lo k' (by omega) i hi
theorem MixI.up {f : Nat → Nat} {n N : Nat} {od : Nat → Nat} {k : Nat} (h : MixI f n N od k) (hN : sumN f n = N) {k' i : Nat} (hk : k' ≤ k) (hi : i < n) : lagF f N od k' i ≤ (N : Int) * (n : Int) ∧ -((N : Int) * (n : Int)) ≤ lagF f N od k' i := by
  have h1 := lag_sum (f := f) (N := N) (n := n) (k := k') hN (fun j hj => h.lt j (by omega)) (k' : Int)
  have h2 : (k' : Int) * (N : Int) - (N : Int) * (k' : Int) = 0 := by rw [Int.mul_comm]; omega
  rw [h2] at h1
  have h3 := sumZ_one_up (v := lagF f N od k') (N := N) (by omega) hi (h.lo k' hk)
  have h4 : sumZ (lagF f N od k') n = 0 := h1
  have h5 := h.lo k' hk i hi
  have h6 : (N : Int) * 1 ≤ (N : Int) * (n : Int) := Int.mul_le_mul_of_nonneg_left (by omega) (by omega)
  omega
theorem MixI.all {f : Nat → Nat} {n N : Nat} {od : Nat → Nat} (h : MixI f n N od N) (hN : sumN f n = N) {i : Nat} (hi : i < n) : cntO od N i = f i := by
  have h1 := cntO_sum h.lt
  have key : ∀ m, (∀ i, i < m → cntO od N i ≤ f i) → sumN (cntO od N) m ≤ sumN f m ∧ (sumN (cntO od N) m = sumN f m → ∀ i, i < m → cntO od N i = f i) := fun m => by
    induction m with
    | zero => intro _; exact ⟨Nat.le_refl _, fun _ i hi => by omega⟩
    | succ m ih =>
      intro hle
      have h2 := ih fun i hi => hle i (by omega)
      have h3 := hle m (by omega)
      rw [sumN, sumN]
      refine ⟨by omega, fun he i hi => ?_⟩
      by_cases e : i = m
      · subst e; omega
      · exact h2.2 (by omega) i (by omega)
  exact (key n h.le).2 (by rw [h1, hN]) i hi
end Go.Proofs.Ytgjjbnjahombdaa.Plain
