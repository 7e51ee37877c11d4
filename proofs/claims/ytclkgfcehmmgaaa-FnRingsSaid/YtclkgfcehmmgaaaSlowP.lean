/- The greatest quotient is a ring's, and the search finds one: plain facts. -/
import Derived.Test.YtclkgfcehmmgaaaPerOf
import Derived.Test.YtclkgfcehmmgaaaSlowT
namespace Go.Proofs.Ytclkgfcehmmgaaa
open Go.RowKit Plain
set_option linter.unusedVariables false
set_option linter.unusedSimpArgs false
theorem ring_nofix {l : List Q4} {L B : Int} {n : Nat} (n1 : 1 ≤ n) (n2 : n ≤ 12) (hv : ∀ a ∈ l, a.a.toNat < n ∧ a.b.toNat < n) (h : fixA (asQ L B l) n = false) : ∃ xz, RingQ l xz ∧ 0 < B * sumQ Q4.c xz - L * sumQ Q4.d xz := by
  have hA : ∀ a ∈ asQ L B l, a.1 < n ∧ a.2.1 < n := by
    intro a ha
    obtain ⟨z, hz, rfl⟩ := List.mem_map.1 ha
    exact hv z hz
  have hc : chB (asQ L B l) (n - 1) (tmB (asQ L B l) n (n - 1)) (asQ L B l).length ≠ -1 := fun e => by
    have := (fix_round n1 hA e).1
    rw [h] at this; cases this
  obtain ⟨v, v1, _, v3⟩ := last_round hA hc
  rw [show n - 1 + 1 = n by omega] at v3
  obtain ⟨_, d, d1, d2, d3⟩ := back_ring n1 (Nat.le_refl _) hA v1 v3
  obtain ⟨r, hp⟩ := way_ring (l := l) (lg := L) (q := B) rfl n1 n2 (Nat.le_refl n) hA v1 v3 d1 d2 d3
  exact ⟨_, r, hp⟩
theorem per_go {n : Nat} {l : List Q4} (n1 : 1 ≤ n) (n2 : n ≤ 12) (ha : ∀ a ∈ l, arcB (n : Int) a = true) (hm : fixA (asQ 0 1 (bareOf l)) n = true) (h1 : fixA (asQ (-1) 1 l) n = false) :
    ∀ m (L B : Int), (172800000 - 14400 * L / B).toNat ≤ m → 1 ≤ B → B ≤ 120 → PerAt l n L B → ∃ L' B' : Nat, TopQ l n L' B' := by
  intro m
  induction m with
  | zero =>
    intro L B hM hB hB2 hp
    cases hf : fixA (asQ L B l) n with
    | true =>
      rcases hp with ⟨rfl, rfl⟩ | ⟨h, _, rz, hr, e1, e2⟩
      · rw [h1] at hf; cases hf
      · refine ⟨L.toNat, B.toNat, by omega, ?_, rz, hr, by omega, by omega⟩
        rw [show ((B.toNat : Nat) : Int) = B by omega, show ((L.toNat : Nat) : Int) = L by omega]
        exact hf
    | false =>
      obtain ⟨xz, hr, h0⟩ := ring_nofix n1 n2 (arcs_in ha) hf
      have := (per_step ha hm hB hB2 hp hf hr h0).2.2.2
      omega
  | succ m ih =>
    intro L B hM hB hB2 hp
    cases hf : fixA (asQ L B l) n with
    | true =>
      rcases hp with ⟨rfl, rfl⟩ | ⟨h, _, rz, hr, e1, e2⟩
      · rw [h1] at hf; cases hf
      · refine ⟨L.toNat, B.toNat, by omega, ?_, rz, hr, by omega, by omega⟩
        rw [show ((B.toNat : Nat) : Int) = B by omega, show ((L.toNat : Nat) : Int) = L by omega]
        exact hf
    | false =>
      obtain ⟨xz, hr, h0⟩ := ring_nofix n1 n2 (arcs_in ha) hf
      obtain ⟨a1, _, a3, a4⟩ := per_step ha hm hB hB2 hp hf hr h0
      exact ih _ _ (by omega) a3.1 a3.2 a1
/-- the weight of an arc at the greatest quotient -/
noncomputable def zP (n : Nat) (l : List Q4) (a : Q4) : Int := (MPer n l).2.1 * a.c - (MPer n l).1 * a.d
theorem slow_found {n : Nat} {l : List Q4} (n1 : 1 ≤ n) (n2 : n ≤ 12) (ha : ∀ a ∈ l, arcB (n : Int) a = true) (hok : okR n l = true) (h1 : fixA (asQ (-1) 1 l) n = false) :
    (∃ s, 1 ≤ s ∧ s ≤ n ∧ ringF l (zP n l) s ≠ none) ∧ (MPer n l).2.2 = true ∧ (0 ≤ (MPer n l).1 ∧ (MPer n l).1 ≤ 12000) ∧ (1 ≤ (MPer n l).2.1 ∧ (MPer n l).2.1 ≤ 120) := by
  have hm : fixA (asQ 0 1 (bareOf l)) n = true := by
    simp only [okR, Bool.and_eq_true, Int.toNat_natCast] at hok
    exact hok.2
  obtain ⟨L, B, hT⟩ := per_go n1 n2 ha hm h1 _ (-1) 1 (Nat.le_refl _) (by omega) (by omega) (.inl ⟨rfl, rfl⟩)
  obtain ⟨hB, hf, rz, hr, e1, e2⟩ := id hT
  have bd := ring_bd (arcs_bd ha) hr
  have hM : MPer n l = (((L / Nat.gcd L B : Nat) : Int), ((B / Nat.gcd L B : Nat) : Int), true) := by
    rw [MPer_yes hok (by simpa using h1), Int.toNat_natCast, qOf_eq (arcs_in ha) hT]
  have g1 : 1 ≤ Nat.gcd L B := Nat.gcd_pos_of_pos_right _ hB
  have eL := Nat.div_mul_cancel (Nat.gcd_dvd_left L B)
  have eB := Nat.div_mul_cancel (Nat.gcd_dvd_right L B)
  have hz : zP n l = fun a => ((B / Nat.gcd L B : Nat) : Int) * a.c - ((L / Nat.gcd L B : Nat) : Int) * a.d := by
    funext a
    rw [zP, hM]
  have u1 := Nat.div_le_self L (Nat.gcd L B)
  have u2 := Nat.div_le_self B (Nat.gcd L B)
  have u3 : 1 ≤ B / Nat.gcd L B := Nat.div_pos (Nat.le_of_dvd hB (Nat.gcd_dvd_right L B)) g1
  have v1 : (MPer n l).1 = ((L / Nat.gcd L B : Nat) : Int) := by rw [hM]
  have v2 : (MPer n l).2.1 = ((B / Nat.gcd L B : Nat) : Int) := by rw [hM]
  refine ⟨?_, by rw [hM], by rw [v1]; exact ⟨Int.natCast_nonneg _, Int.le_trans (Int.ofNat_le.2 u1) (by omega)⟩, by rw [v2]; exact ⟨Int.ofNat_le.2 u3, Int.le_trans (Int.ofNat_le.2 u2) (by omega)⟩⟩
  rw [hz]
  have hc := fix_closed (fun a h => by
    obtain ⟨z, hz, rfl⟩ := List.mem_map.1 h
    rw [tmA_len]; exact (arcs_in ha z hz).2) (of_decide_eq_true hf)
  obtain ⟨t, ht⟩ : ∃ t : Nat → Int, t = fun v => (tmA (l.map fun a => (a.a.toNat, a.b.toNat, (B : Int) * a.c - (L : Int) * a.d)) n (n - 1)).getD v 0 := ⟨_, rfl⟩
  rw [← ht] at hc
  have tight := sumQ_tight (l := rz) (f := fun a => ((B : Int) * a.c - (L : Int) * a.d) - (t a.b.toNat - t a.a.toNat)) (fun a h => by
    have := hc _ (List.mem_map.2 ⟨a, hr.mem a h, rfl⟩)
    simp only at this
    omega) (by
    have s1 := hr.ring t
    have s2 := sumQ_lin (B : Int) (L : Int) rz
    rw [← e1, ← e2] at s2
    have s3 : ∀ m : List Q4, sumQ (fun a => ((B : Int) * a.c - (L : Int) * a.d) - (t a.b.toNat - t a.a.toNat)) m = sumQ (fun a => (B : Int) * a.c - (L : Int) * a.d) m - sumQ (fun a => t a.b.toNat - t a.a.toNat) m := by
      intro m
      induction m with
      | nil => rfl
      | cons b m ih => simp only [sumQ, ih]; omega
    rw [s3, s1, s2, Int.mul_comm (B : Int)]
    omega)
  refine ring_found (g := (Nat.gcd L B : Nat)) (t := t) hr (by omega) (fun a h => ?_) (fun a h => ?_)
  · have := ha a h
    obtain ⟨a, b, c, d⟩ := a
    have := arcB_iff.1 this
    simp only
    omega
  · have h2 := tight a h
    have : ((Nat.gcd L B : Nat) : Int) * (((B / Nat.gcd L B : Nat) : Int) * a.c - ((L / Nat.gcd L B : Nat) : Int) * a.d) = (B : Int) * a.c - (L : Int) * a.d := by
      rw [Int.mul_sub, ← Int.mul_assoc, ← Int.mul_assoc]
      have x1 : ((Nat.gcd L B : Nat) : Int) * ((B / Nat.gcd L B : Nat) : Int) = (B : Int) := by
        rw [Int.mul_comm]; exact_mod_cast eB
      have x2 : ((Nat.gcd L B : Nat) : Int) * ((L / Nat.gcd L B : Nat) : Int) = (L : Int) := by
        rw [Int.mul_comm]; exact_mod_cast eL
      rw [x1, x2]
    omega
end Go.Proofs.Ytclkgfcehmmgaaa
