/- Bands of green waves: bounds of faults, and of the band. No program stands here. -/
import Derived.Test.YtpnbjfhcnjdohaaGreenM
import Derived.Test.YtpnbjfhcnjdohaaGrnT
namespace Go.Proofs.Ytpnbjfhcnjdohaa
open Ieee
set_option linter.unusedVariables false
set_option maxRecDepth 100000
/-- a number with its sign -/
def sv (s : Bool) (m : Nat) (i : Int) : Rat := if s then -(ev m i) else ev m i
theorem sv_at (s : Bool) (m : Nat) {i base : Int} (h : base ≤ i) : sv s m i = ((signed s m (i - base).toNat : Int) : Rat) * (2 : Rat) ^ base := by
  unfold sv signed
  rw [ev_at m h]
  unfold ev
  rw [Nat.shiftLeft_eq]
  cases s
  · simp only [Bool.false_eq_true, if_false]
    rw [Rat.intCast_natCast]
  · simp only [if_true]
    rw [Rat.intCast_neg, Rat.intCast_natCast, Rat.neg_mul]
theorem sub_sv {f : Format} {a b : Nat} {s t : Bool} {m n : Nat} {i j : Int} (ha : f.read a = .number s m i) (hb : f.read b = .number t n j) (hs : s = true → m ≠ 0) (h : sv t n j ≤ sv s m i) : ∃ z, f.sub a b = some z ∧ RN f (sv s m i - sv t n j) z := by
  have e1 := sv_at s m (Int.min_le_left i j)
  have e2 := sv_at t n (Int.min_le_right i j)
  rw [e1, e2] at h
  have hp := p2_pos (min i j)
  have hle : signed t n (j - min i j).toNat ≤ signed s m (i - min i j).toNat := by
    rcases Int.lt_or_le (signed s m (i - min i j).toNat) (signed t n (j - min i j).toNat) with hlt | hge
    · exfalso
      have h1 : ((signed s m (i - min i j).toNat : Int) : Rat) < ((signed t n (j - min i j).toNat : Int) : Rat) := by exact_mod_cast hlt
      have := Rat.mul_lt_mul_of_pos_right h1 hp
      grind
    · exact hge
  have eopp : signed (!t) n (j - min i j).toNat = -signed t n (j - min i j).toNat := by cases t <;> simp [signed]
  refine ⟨rnd f (signed s m (i - min i j).toNat - signed t n (j - min i j).toNat).natAbs (min i j), ?_, rn_rnd f _ _ ?_⟩
  · simp only [Format.sub, ha, hb, Datum.sum, Datum.opposite, Format.write, nearest_eq, Option.map_some]
    rw [eopp]
    have hneg : s = true → signed s m (i - min i j).toNat < 0 := by
      intro h1
      subst h1
      have := hs rfl
      have h3 : 0 < m * 2 ^ (i - min i j).toNat := Nat.mul_pos (by omega) (Nat.two_pow_pos _)
      simp only [signed, if_true, Nat.shiftLeft_eq]
      omega
    have hpos : t = false → 0 ≤ signed t n (j - min i j).toNat := by
      intro h1
      subst h1
      simp only [signed, Bool.false_eq_true, if_false]
      exact Int.natCast_nonneg _
    generalize signed s m (i - min i j).toNat = A at *
    generalize signed t n (j - min i j).toNat = B at *
    have a2 : (if A + -B = 0 then s && !t else decide (A + -B < 0)) = false := by
      split
      · cases s with
        | false => rfl
        | true =>
          cases t with
          | true => rfl
          | false =>
            have h1 := hneg rfl
            have h2 := hpos rfl
            omega
      · simp; omega
    rw [a2, word_false]
    rfl
  · rw [e1, e2]
    unfold ev
    have h3 : (((signed s m (i - min i j).toNat - signed t n (j - min i j).toNat).natAbs : Nat) : Int) = signed s m (i - min i j).toNat - signed t n (j - min i j).toNat := by omega
    have h4 : (((signed s m (i - min i j).toNat - signed t n (j - min i j).toNat).natAbs : Nat) : Rat) = ((signed s m (i - min i j).toNat : Int) : Rat) - ((signed t n (j - min i j).toNat : Int) : Rat) := by
      have : ((((signed s m (i - min i j).toNat - signed t n (j - min i j).toNat).natAbs : Nat) : Int) : Rat) = (((signed s m (i - min i j).toNat - signed t n (j - min i j).toNat) : Int) : Rat) := by rw [h3]
      push_cast at this
      exact_mod_cast this
    rw [h4]
    grind
theorem order_sv {f : Format} {a b : Nat} {s t : Bool} {m n : Nat} {i j : Int} (ha : f.read a = .number s m i) (hb : f.read b = .number t n j) : (f.order a b = some .gt → sv t n j ≤ sv s m i) ∧ (f.order a b = some .lt → sv s m i ≤ sv t n j) ∧ (f.order a b ≠ some .gt → sv s m i ≤ sv t n j) ∧ (f.order a b ≠ some .lt → sv t n j ≤ sv s m i) := by
  have e1 := sv_at s m (Int.min_le_left i j)
  have e2 := sv_at t n (Int.min_le_right i j)
  have hp := Rat.le_of_lt (p2_pos (min i j))
  rw [e1, e2]
  simp only [Format.order, ha, hb, Datum.order]
  generalize signed s m (i - min i j).toNat = A at *
  generalize signed t n (j - min i j).toNat = B at *
  have up : A ≤ B → (A : Rat) * 2 ^ min i j ≤ (B : Rat) * 2 ^ min i j := fun h => Rat.mul_le_mul_of_nonneg_right (by exact_mod_cast h) hp
  have dn : B ≤ A → (B : Rat) * 2 ^ min i j ≤ (A : Rat) * 2 ^ min i j := fun h => Rat.mul_le_mul_of_nonneg_right (by exact_mod_cast h) hp
  simp only [compare, compareOfLessAndEq, Option.some.injEq, ne_eq]
  rcases Int.lt_trichotomy A B with h | h | h
  · refine ⟨fun h2 => ?_, fun _ => up (by omega), fun _ => up (by omega), fun h2 => ?_⟩ <;> simp [h] at h2
  · subst h
    exact ⟨fun _ => dn (by omega), fun _ => up (by omega), fun _ => up (by omega), fun _ => dn (by omega)⟩
  · have hn : ¬ A < B := by omega
    have hne : ¬ A = B := by omega
    refine ⟨fun _ => dn (by omega), fun h2 => ?_, fun h2 => ?_, fun _ => dn (by omega)⟩ <;> simp [hn, hne] at h2
theorem rv_nonneg' (f : Format) (R : Nat) : 0 ≤ rv f R := by obtain ⟨K, L, e, _⟩ := rv_kl f R; rw [e]; exact ev_nonneg _ _
theorem rv_pos' {f : Format} {R : Nat} (h : 0 < R) (hi : R ≤ f.infRung) : 0 < rv f R := by
  have h1 := (rv_lt f (R := 0) (S := R) hi).2 h
  have h2 := rv_nonneg' f 0
  grind
/-- a number is read -/
def IsN (e : Nat) : Prop := ∃ s m i, single.read e = .number s m i ∧ (s = true → m ≠ 0)
def svW (e : Nat) : Rat := match single.read e with | .number s m i => sv s m i | _ => 0
theorem svW_of {e m : Nat} {s : Bool} {i : Int} (h : single.read e = .number s m i) : svW e = sv s m i := by rw [svW, h]
theorem order_w {d e : Nat} (hd : IsN d) (he : IsN e) : (single.order d e = some .gt → svW e ≤ svW d) ∧ (single.order d e = some .lt → svW d ≤ svW e) ∧ (single.order d e ≠ some .gt → svW d ≤ svW e) ∧ (single.order d e ≠ some .lt → svW e ≤ svW d) := by
  obtain ⟨s, m, i, h1, _⟩ := hd
  obtain ⟨t, n, j, h2, _⟩ := he
  rw [svW_of h1, svW_of h2]
  exact order_sv h1 h2
theorem low_all {f : Nat → Nat} (k : Nat) (h1 : 1 ≤ k) (hn : ∀ j, j < k → IsN (f j)) : (∃ j, j < k ∧ lowW f k = f j) ∧ ∀ j, j < k → svW (lowW f k) ≤ svW (f j) := by
  induction k with
  | zero => omega
  | succ k ih =>
    rcases Nat.eq_zero_or_pos k with h0 | h0
    · subst h0
      have e : lowW f 1 = f 0 := rfl
      rw [e]
      exact ⟨⟨0, by omega, rfl⟩, fun j hj => by rw [show j = 0 by omega]; exact Rat.le_refl⟩
    · obtain ⟨⟨j0, hj0, e0⟩, ha⟩ := ih (by omega) (fun j hj => hn j (by omega))
      have e : lowW f (k + 1) = if FloatKind.f32.format.order (lowW f k) (f k) = some .gt then f k else lowW f k := by rw [lowW, if_neg (by omega)]
      have ho := order_w (d := lowW f k) (e := f k) (by rw [e0]; exact hn j0 (by omega)) (hn k (by omega))
      rw [e]
      by_cases hg : FloatKind.f32.format.order (lowW f k) (f k) = some .gt
      · rw [if_pos hg]
        have h2 := ho.1 hg
        refine ⟨⟨k, by omega, rfl⟩, fun j hj => ?_⟩
        by_cases hk : j = k
        · subst hk; exact Rat.le_refl
        · exact Rat.le_trans h2 (ha j (by omega))
      · rw [if_neg hg]
        have h2 := ho.2.2.1 hg
        refine ⟨⟨j0, by omega, e0⟩, fun j hj => ?_⟩
        by_cases hk : j = k
        · subst hk; exact h2
        · exact ha j (by omega)
theorem high_all {f : Nat → Nat} (k : Nat) (h1 : 1 ≤ k) (hn : ∀ j, j < k → IsN (f j)) : (∃ j, j < k ∧ highW f k = f j) ∧ ∀ j, j < k → svW (f j) ≤ svW (highW f k) := by
  induction k with
  | zero => omega
  | succ k ih =>
    rcases Nat.eq_zero_or_pos k with h0 | h0
    · subst h0
      have e : highW f 1 = f 0 := rfl
      rw [e]
      exact ⟨⟨0, by omega, rfl⟩, fun j hj => by rw [show j = 0 by omega]; exact Rat.le_refl⟩
    · obtain ⟨⟨j0, hj0, e0⟩, ha⟩ := ih (by omega) (fun j hj => hn j (by omega))
      have e : highW f (k + 1) = if FloatKind.f32.format.order (highW f k) (f k) = some .lt then f k else highW f k := by rw [highW, if_neg (by omega)]
      have ho := order_w (d := highW f k) (e := f k) (by rw [e0]; exact hn j0 (by omega)) (hn k (by omega))
      rw [e]
      by_cases hg : FloatKind.f32.format.order (highW f k) (f k) = some .lt
      · rw [if_pos hg]
        have h2 := ho.2.1 hg
        refine ⟨⟨k, by omega, rfl⟩, fun j hj => ?_⟩
        by_cases hk : j = k
        · subst hk; exact Rat.le_refl
        · exact Rat.le_trans (ha j (by omega)) h2
      · rw [if_neg hg]
        have h2 := ho.2.2.2 hg
        refine ⟨⟨j0, by omega, e0⟩, fun j hj => ?_⟩
        by_cases hk : j = k
        · subst hk; exact h2
        · exact ha j (by omega)
/-- what 64 bits have is written as it is -/
theorem D_exact {m : Nat} {e : Int} (h : m < 2 ^ 53) (he : -1074 ≤ e) (he2 : e ≤ 900) : rnd double m e < double.infRung ∧ rv double (rnd double m e) = ev m e ∧ double.nearest false m e = rnd double m e := by
  have e0 : double.nearest false m e = rnd double m e := by rw [nearest_eq, word_false]
  have s1 : double.leastPlace = -1074 := by decide
  have s2 : double.fractionBits = 52 := rfl
  have s3 : double.exponentBits = 11 := rfl
  by_cases h0 : m = 0
  · subst h0
    have e1 : rnd double 0 e = 0 := by rw [rnd, if_pos rfl]
    rw [e1]
    refine ⟨by decide +kernel, ?_, by rw [← e1]; exact e0⟩
    rw [rv, if_pos (show 0 < double.binade from Nat.two_pow_pos _), ev_zero, ev_zero]
  · have hl := (Nat.log2_lt h0).2 h
    obtain ⟨j, hj⟩ := fl_write double (s := false) (e := e) h0 (by rw [s2]; exact h) (by omega) (by rw [s1, s2, s3]; omega)
    rw [e0] at hj
    have hlt : rnd double m e < double.infRung := by
      rcases Nat.lt_or_ge (rnd double m e) double.infRung with h1 | h1
      · exact h1
      · have h2 := rnd_inf double m e
        have h3 : rnd double m e = double.infRung := by omega
        rw [h3] at hj
        have h4 : double.read double.infRung = .infinity false := by decide +kernel
        rw [h4] at hj
        cases hj
    obtain ⟨K, L, h1, h2⟩ := read_rung double hlt
    rw [hj] at h1
    injection h1 with _ h3 h4
    refine ⟨hlt, ?_, e0⟩
    rw [← h2, ← h3, ← h4, ev_shift]
    congr 1
    omega
theorem up_rv {b : Nat} (h : b < single.infRung) : up64 b < double.infRung ∧ rv double (up64 b) = rv single b := by
  obtain ⟨K, L, h1, h2⟩ := read_rung single h
  obtain ⟨k1, k2, k3⟩ := single_num h1
  obtain ⟨d1, d2, d3⟩ := D_exact (m := K) (e := L) (Nat.lt_trans k1 (by decide)) (by omega) (by omega)
  have e : up64 b = rnd double K L := by rw [up64, h1]; exact d3
  rw [e]
  exact ⟨d1, by rw [d2, h2]⟩
theorem up_le {a b : Nat} (ha : a < single.infRung) (hb : b < single.infRung) (h : a ≤ b) : up64 a ≤ up64 b := by
  obtain ⟨a1, a2⟩ := up_rv ha
  obtain ⟨b1, b2⟩ := up_rv hb
  rw [← rv_le double (Nat.le_of_lt a1), a2, b2]
  exact (rv_le single (Nat.le_of_lt ha)).2 h
/-- less than what it is taken from -/
theorem sub_neg {x y : Nat} (hx : x < single.infRung) (hy : y < single.infRung) (h : x < y) : ∃ z, single.sub x y = some z ∧ single.order z 0 = some .lt := by
  obtain ⟨e, he, s, r, r1, r2, rfl⟩ := sub_nw hx hy
  refine ⟨_, he, ?_⟩
  have hlt := (rv_lt single (Nat.le_of_lt hy)).2 h
  obtain ⟨m, i, e1, v1⟩ := read_rung single hx
  obtain ⟨n, j, e2, v2⟩ := read_rung single hy
  rw [← v1, ← v2, ev_at m (Int.min_le_left i j), ev_at n (Int.min_le_right i j), ev_lt] at hlt
  have hs : s = true := by
    cases s with
    | true => rfl
    | false =>
      exfalso
      simp only [Format.sub, e1, e2, Datum.sum, Datum.opposite, Format.write, nearest_eq, signed, Nat.shiftLeft_eq, Bool.false_eq_true, if_false, Option.map_some, Bool.not_false, if_true] at he
      generalize m * 2 ^ (i - min i j).toNat = a at *
      generalize n * 2 ^ (j - min i j).toNat = b at *
      have a2 : (if (a : Int) + -(b : Int) = 0 then false && true else decide ((a : Int) + -(b : Int) < 0)) = true := by split <;> simp <;> omega
      rw [a2, Option.some.injEq] at he
      have hsw : single.signWeight = 2147483648 := by decide
      have hinf : single.infRung = 2139095040 := by decide
      simp only [Format.word, if_true, Bool.false_eq_true, if_false] at he
      omega
  subst hs
  obtain ⟨K, L, h1, h2⟩ := read_signed true r1
  rw [neg_order h1, if_neg]
  intro hK
  subst hK
  rw [ev_zero] at h2
  have := rv_pos' (f := single) (r2 rfl) (Nat.le_of_lt r1)
  rw [← h2] at this
  exact absurd this (Rat.lt_irrefl)
end Go.Proofs.Ytpnbjfhcnjdohaa
