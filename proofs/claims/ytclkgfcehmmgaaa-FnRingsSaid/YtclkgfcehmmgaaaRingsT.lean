/- What the law on rings asks, in plain numbers. -/
import Derived.Test.YtclkgfcehmmgaaaSlowP
import Derived.Test.YtclkgfcehmmgaaaRingP
import Derived.Test.YtclkgfcehmmgaaaRunL
import Derived.Test.YtclkgfcehmmgaaaIsPer
namespace Go.Proofs.Ytclkgfcehmmgaaa
open Go.RowKit Plain
set_option linter.unusedVariables false
set_option linter.unusedSimpArgs false
/-- arcs without marks lead up: no ring of them -/
theorem bare_fix {n : Nat} {l : List Q4} (n1 : 1 ≤ n) (n2 : n ≤ 12) (ha : ∀ a ∈ l, arcB (n : Int) a = true) (hu : ∀ a ∈ l, a.d = 0 → a.a < a.b) : fixA (asQ 0 1 (bareOf l)) n = true := by
  cases hf : fixA (asQ 0 1 (bareOf l)) n with
  | true => rfl
  | false =>
    exfalso
    have hb := bare_ok ha
    obtain ⟨xz, hr, _⟩ := ring_nofix n1 n2 (arcs_in hb) hf
    have h0 := hr.ring (fun v => (v : Int))
    have h1 : ∀ a ∈ xz, (1 : Int) ≤ (a.b.toNat : Int) - (a.a.toNat : Int) := by
      intro a h
      have h2 := hr.mem a h
      simp only [bareOf, List.mem_map, List.mem_filter] at h2
      obtain ⟨z, ⟨hz, hd⟩, rfl⟩ := h2
      have h3 := hu z hz (by simpa using hd)
      have h4 := ha z hz
      obtain ⟨a, b, c, d⟩ := z
      have h5 := arcB_iff.1 h4
      simp only at h3 ⊢
      omega
    have h2 := sumQ_le (f := fun _ => 1) (g := fun a : Q4 => (a.b.toNat : Int) - (a.a.toNat : Int)) h1
    rw [sumQ_const] at h2
    have := hr.one
    omega
/-- what is known where there is a greatest quotient -/
structure PerK (n : Nat) (l : List Q4) (lg by' : Int) : Prop where
  l0 : 0 ≤ lg ∧ lg ≤ 12000
  b0 : 1 ≤ by' ∧ by' ≤ 120
  fix : fixA (asQ lg by' l) n = true
  less : 0 < lg → fixA (asQ (4 * lg - 1) (4 * by') l) n = false
theorem per_known {n : Nat} {l : List Q4} (n1 : 1 ≤ n) (n2 : n ≤ 12) (ha : ∀ a ∈ l, arcB (n : Int) a = true) (hok : okR n l = true) (h1 : fixA (asQ (-1) 1 l) n = false) : PerK n l (MPer n l).1 (MPer n l).2.1 := by
  have hm : fixA (asQ 0 1 (bareOf l)) n = true := by
    simp only [okR, Bool.and_eq_true, Int.toNat_natCast] at hok
    exact hok.2
  obtain ⟨_, _, k1, k2⟩ := slow_found n1 n2 ha hok h1
  obtain ⟨L, B, hT⟩ := per_go n1 n2 ha hm h1 _ (-1) 1 (Nat.le_refl _) (by omega) (by omega) (.inl ⟨rfl, rfl⟩)
  obtain ⟨hB, hf, rz, hr, e1, e2⟩ := id hT
  have hM : MPer n l = (((L / Nat.gcd L B : Nat) : Int), ((B / Nat.gcd L B : Nat) : Int), true) := by
    rw [MPer_yes hok (by simpa using h1), Int.toNat_natCast, qOf_eq (arcs_in ha) hT]
  have g1 : 1 ≤ Nat.gcd L B := Nat.gcd_pos_of_pos_right _ hB
  have eL := Nat.div_mul_cancel (Nat.gcd_dvd_left L B)
  have eB := Nat.div_mul_cancel (Nat.gcd_dvd_right L B)
  rw [hM] at k1 k2 ⊢
  dsimp only at k1 k2 ⊢
  obtain ⟨x, hx⟩ : ∃ x, x = L / Nat.gcd L B := ⟨_, rfl⟩
  obtain ⟨y, hy⟩ : ∃ y, y = B / Nat.gcd L B := ⟨_, rfl⟩
  obtain ⟨g, hg⟩ : ∃ g, g = Nat.gcd L B := ⟨_, rfl⟩
  rw [← hg] at eL eB g1
  rw [← hx] at k1 ⊢
  rw [← hy] at k2 ⊢
  rw [← hg] at hx hy
  rw [← hx] at eL
  rw [← hy] at eB
  have gx : (g : Int) * (x : Int) = (L : Int) := by rw [← eL]; push_cast; rw [Int.mul_comm]
  have gy : (g : Int) * (y : Int) = (B : Int) := by rw [← eB]; push_cast; rw [Int.mul_comm]
  have scale : ∀ c d : Int, (g : Int) * ((y : Int) * c - (x : Int) * d) = (B : Int) * c - (L : Int) * d := fun c d => by
    rw [Int.mul_sub, ← Int.mul_assoc, ← Int.mul_assoc, gx, gy]
  refine ⟨k1, k2, ?_, fun h0 => ?_⟩
  · cases hf2 : fixA (asQ (x : Int) (y : Int) l) n with
    | true => rfl
    | false =>
      exfalso
      obtain ⟨xz, hr2, hp⟩ := ring_nofix n1 n2 (arcs_in ha) hf2
      have h2 := ring_fix (arcs_in ha) hr2 hf
      rw [← scale] at h2
      have h3 : 0 < (g : Int) * ((y : Int) * sumQ Q4.c xz - (x : Int) * sumQ Q4.d xz) := Int.mul_pos (by omega) hp
      omega
  · cases hf2 : fixA (asQ (4 * (x : Int) - 1) (4 * (y : Int)) l) n with
    | false => rfl
    | true =>
      exfalso
      have h2 := ring_fix (arcs_in ha) hr hf2
      rw [← e1, ← e2] at h2
      have h3 := scale L B
      have h4 : (B : Int) * (L : Int) - (L : Int) * (B : Int) = 0 := by rw [Int.mul_comm]; omega
      rw [h4] at h3
      have h5 : (y : Int) * L - (x : Int) * B = 0 := by
        rcases Int.mul_eq_zero.1 h3 with h | h
        · omega
        · exact h
      have e3 : 4 * (y : Int) * L - (4 * (x : Int) - 1) * B = 4 * ((y : Int) * L - (x : Int) * B) + B := by
        rw [Int.sub_mul, Int.one_mul, Int.mul_assoc, Int.mul_assoc, Int.mul_sub]
        omega
      rw [e3, h5] at h2
      omega
/-- the ring that is found: its sums -/
theorem ring_sums {n s : Nat} {l : List Q4} {p : List Nat} (ha : ∀ a ∈ l, arcB (n : Int) a = true) (hok : okR n l = true) (s1 : 1 ≤ s) (s2 : s ≤ 12) (h : ringF l (zP n l) s = some p) :
    p.length = s ∧ ∃ q e, PathQ l e p q e ∧ q.length = s ∧ sumQ Q4.c q * (MPer n l).2.1 = (MPer n l).1 * sumQ Q4.d q ∧ 1 ≤ sumQ Q4.d q := by
  have hm : fixA (asQ 0 1 (bareOf l)) n = true := by
    simp only [okR, Bool.and_eq_true, Int.toNat_natCast] at hok
    exact hok.2
  obtain ⟨q, e, h1, h2, h3⟩ := ringF_path s1 h
  have hr := path_ring h1 (by omega) (by omega)
  have m := ring_mark (arcs_in ha) (fun a h => (arcs_bd ha a h).2.1) hr (by rw [← bare_asQ]; exact hm)
  refine ⟨h3, q, e, h1, by rw [(path_facts p q e e h1).1, h3], ?_, m⟩
  have h4 : sumQ (zP n l) q = (MPer n l).2.1 * sumQ Q4.c q - (MPer n l).1 * sumQ Q4.d q := sumQ_lin _ _ _
  rw [h2] at h4
  rw [Int.mul_comm (sumQ Q4.c q)]
  omega
/-- times keep arcs -/
theorem times_keep {n : Nat} {l : List Q4} {lg q : Int} (ha : ∀ a ∈ l, arcB (n : Int) a = true) (hf : fixA (asQ lg q l) n = true) : ∀ a ∈ l, (tmA (asQ lg q l) n (n - 1)).getD a.a.toNat 0 + (q * a.c - lg * a.d) ≤ (tmA (asQ lg q l) n (n - 1)).getD a.b.toNat 0 := by
  have hc := fix_closed (fun a h => by
    obtain ⟨z, hz, rfl⟩ := List.mem_map.1 h
    rw [tmA_len]; exact (arcs_in ha z hz).2) (of_decide_eq_true hf)
  intro a h
  exact hc _ (List.mem_map.2 ⟨a, h, rfl⟩)
theorem node_at {n i : Nat} (k : Nat) (h : i < n) : (k * n + i) % n = i ∧ (k * n + i) / n = k := by
  constructor
  · rw [Nat.mul_comm, Nat.mul_add_mod]; exact Nat.mod_eq_of_lt h
  · rw [Nat.mul_comm, Nat.mul_add_div (by omega), Nat.div_eq_of_lt h]; rfl
/-- what happens comes no later than by times of a period -/
theorem run_times {n R : Nat} {l : List Q4} {lg q : Int} {T : Nat → Int} (ha : ∀ a ∈ l, arcB (n : Int) a = true) (hq : 1 ≤ q) (hl : 0 ≤ lg) (h0 : ∀ i, 0 ≤ T i) (hT : ∀ a ∈ l, T a.a.toNat + (q * a.c - lg * a.d) ≤ T a.b.toNat) (k : Nat) :
    ∀ v, (outR l n R k).getD v 0 ≤ (T (v % n) + (v / n : Nat) * lg) / q := by
  have hpos : ∀ v : Nat, 0 ≤ T (v % n) + (v / n : Nat) * lg := fun v => by
    have := h0 (v % n)
    have := Int.mul_nonneg (Int.natCast_nonneg (v / n)) hl
    omega
  induction k with
  | zero =>
    intro v
    rw [outR, List.getD_eq_getElem?_getD, List.getElem?_replicate]
    have := Int.ediv_nonneg (hpos v) (show 0 ≤ q by omega)
    split <;> exact this
  | succ k ih =>
    intro v
    rw [outR]
    refine itA_le (F := fun v => (T (v % n) + (v / n : Nat) * lg) / q) ih (fun x hx => ?_) n v
    simp only [layA, List.mem_map, List.mem_filter] at hx
    obtain ⟨a, ⟨hm, hd⟩, rfl⟩ := hx
    have hd := of_decide_eq_true hd
    have hin := arcs_in ha a hm
    have hbd := arcs_bd ha a hm
    obtain ⟨a1, a2⟩ := node_at (n := n) (k - a.d.toNat) hin.1
    obtain ⟨b1, b2⟩ := node_at (n := n) k hin.2
    show (T (((k - a.d.toNat) * n + a.a.toNat) % n) + (((k - a.d.toNat) * n + a.a.toNat) / n : Nat) * lg) / q + a.c ≤ (T ((k * n + a.b.toNat) % n) + ((k * n + a.b.toNat) / n : Nat) * lg) / q
    rw [a1, a2, b1, b2, Int.le_ediv_iff_mul_le (by omega), Int.add_mul]
    have h1 := Int.ediv_mul_le (T a.a.toNat + ((k - a.d.toNat : Nat) : Int) * lg) (show q ≠ 0 by omega)
    have h2 := hT a hm
    have h3 : ((k - a.d.toNat : Nat) : Int) * lg = (k : Int) * lg - a.d * lg := by
      rw [← Int.sub_mul]
      congr 1
      omega
    rw [h3] at h1 ⊢
    rw [Int.mul_comm lg] at h2
    rw [Int.mul_comm a.c]
    omega
theorem run_late {n R : Nat} {l : List Q4} {lg q : Int} {T : Nat → Int} (ha : ∀ a ∈ l, arcB (n : Int) a = true) (hq : 1 ≤ q) (hl : 0 ≤ lg) (h0 : ∀ i, 0 ≤ T i) (hT : ∀ a ∈ l, T a.a.toNat + (q * a.c - lg * a.d) ≤ T a.b.toNat) (k m i : Nat) (hi : i < n) :
    q * (outR l n R k).getD (m * n + i) 0 ≤ T i + (m : Int) * lg := by
  have h := run_times (R := R) ha hq hl h0 hT k (m * n + i)
  obtain ⟨a1, a2⟩ := node_at m hi
  rw [a1, a2, Int.le_ediv_iff_mul_le (by omega), Int.mul_comm] at h
  exact h
end Go.Proofs.Ytclkgfcehmmgaaa
