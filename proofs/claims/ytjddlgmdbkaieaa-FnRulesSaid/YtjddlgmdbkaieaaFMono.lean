/- Rounding never passes a number of the format: what '+', '-', '*', '/' of positive floats lie between. No program stands here. -/
import Derived.Test.YtjddlgmdbkaieaaFloats
namespace Go.Proofs.Ytjddlgmdbkaieaa
set_option linter.unusedVariables false
open Ieee

/-- m * 2 ^ p -/
def ev (m : Nat) (p : Int) : Rat := (m : Rat) * (2 : Rat) ^ p
theorem two_ne : (2 : Rat) ≠ 0 := by decide
theorem p2_pos (p : Int) : (0 : Rat) < (2 : Rat) ^ p := Rat.zpow_pos (by decide)
theorem ev_nonneg (m : Nat) (p : Int) : 0 ≤ ev m p := Rat.mul_nonneg (Rat.natCast_nonneg) (Rat.le_of_lt (p2_pos p))
theorem ev_zero (p : Int) : ev 0 p = 0 := by simp [ev]
theorem ev_le {m n : Nat} {p : Int} : ev m p ≤ ev n p ↔ m ≤ n := by
  unfold ev
  constructor
  · intro h; exact Rat.natCast_le_natCast.1 (Rat.le_of_mul_le_mul_right h (p2_pos p))
  · intro h; exact Rat.mul_le_mul_of_nonneg_right (Rat.natCast_le_natCast.2 h) (Rat.le_of_lt (p2_pos p))
theorem ev_lt {m n : Nat} {p : Int} : ev m p < ev n p ↔ m < n := by
  rw [← Rat.not_le, ev_le]; omega
theorem ev_shift (m k : Nat) (p : Int) : ev (m * 2 ^ k) p = ev m (p + k) := by
  unfold ev
  rw [Rat.natCast_mul, Rat.natCast_pow, Rat.zpow_add two_ne, Rat.zpow_natCast, Rat.mul_assoc, Rat.mul_comm (2 ^ p)]
  rfl
theorem ev_at (m : Nat) {p q : Int} (h : q ≤ p) : ev m p = ev (m * 2 ^ (p - q).toNat) q := by
  rw [ev_shift]; congr 1; omega
theorem ev_mul (m n : Nat) (p q : Int) : ev m p * ev n q = ev (m * n) (p + q) := by
  unfold ev
  rw [Rat.natCast_mul, Rat.zpow_add two_ne]
  grind
theorem ev_add (m n : Nat) (p : Int) : ev m p + ev n p = ev (m + n) p := by
  unfold ev; rw [Rat.natCast_add]; grind
theorem ev_le_of {m n : Nat} {p q : Int} (h : p ≤ q) (hm : m ≤ n) : ev m p ≤ ev n q := by
  rw [ev_at n h, ev_le]
  exact Nat.le_trans hm (Nat.le_mul_of_pos_right _ (Nat.two_pow_pos _))
theorem ev_log {m : Nat} (h : m ≠ 0) (p : Int) : ev 1 (p + m.log2) ≤ ev m p ∧ ev m p < ev 1 (p + m.log2 + 1) := by
  have h1 := Nat.log2_self_le h
  have h2 := @Nat.lt_log2_self m
  constructor
  · rw [← ev_shift, ev_le]; omega
  · rw [show p + (m.log2 : Int) + 1 = p + ((m.log2 + 1 : Nat) : Int) by omega, ← ev_shift, ev_lt]; omega

theorem lt_of_lt_of_le' {a b c : Rat} (h : a < b) (h' : b ≤ c) : a < c := by grind
theorem lt_of_le_of_lt' {a b c : Rat} (h : a ≤ b) (h' : b < c) : a < c := by grind
theorem cut_le {n K d : Nat} {neg : Bool} (h : n ≤ K * 2 ^ d) : Toward.even.cut neg n d ≤ K := by
  unfold Toward.cut
  dsimp only
  by_cases hd : d ≤ n.log2 + 2
  · rw [Nat.min_eq_left hd, Nat.one_shiftLeft]
    have hp := Nat.two_pow_pos d
    generalize 2 ^ d = g at *
    have h1 := Nat.div_add_mod n g
    have h2 := Nat.mod_lt n hp
    have h3 : n / g ≤ K := Nat.div_le_of_le_mul (by rw [Nat.mul_comm]; exact h)
    by_cases e : n / g = K
    · rw [e] at h1 ⊢
      rw [Nat.mul_comm] at h
      have : n % g = 0 := by omega
      rw [this]
      have hg : (g == 0) = false := by simp; omega
      simp [hg]
    · have : ∀ b : Bool, b.toNat ≤ 1 := by decide
      have := this (decide (g < 2 * (n % g)) || g == 2 * (n % g) && n / g % 2 == 1)
      omega
  · rw [Nat.min_eq_right (by omega), Nat.one_shiftLeft]
    have h2 := @Nat.lt_log2_self n
    have h4 : 2 ^ (n.log2 + 2) = 2 * 2 ^ (n.log2 + 1) := by rw [Nat.pow_succ]; omega
    generalize 2 ^ (n.log2 + 2) = g at *
    have h5 : n / g = 0 := Nat.div_eq_of_lt (by omega)
    have h6 : n % g = n := Nat.mod_eq_of_lt (by omega)
    rw [h5, h6]
    have h7 : ¬ g < 2 * n := by omega
    have h8 : ¬ g = 2 * n := by omega
    simp [h7]
theorem le_cut {n K d : Nat} {neg : Bool} (h : K * 2 ^ d ≤ n) : K ≤ Toward.even.cut neg n d := by
  unfold Toward.cut
  dsimp only
  refine Nat.le_trans ?_ (Nat.le_add_right _ _)
  by_cases hd : d ≤ n.log2 + 2
  · rw [Nat.min_eq_left hd, Nat.one_shiftLeft]
    exact (Nat.le_div_iff_mul_le (Nat.two_pow_pos d)).2 h
  · have h2 := @Nat.lt_log2_self n
    have : K = 0 := by
      rcases Nat.eq_zero_or_pos K with h | hk
      · exact h
      · have := Nat.pow_le_pow_right (show 0 < 2 by omega) (show n.log2 + 1 ≤ d by omega)
        have : 1 * 2 ^ d ≤ K * 2 ^ d := Nat.mul_le_mul_right _ hk
        omega
    subst this
    exact Nat.zero_le _

section
variable (f : Format)
/-- the rung of 'm * 2 ^ p', rounded -/
def rnd (m : Nat) (p : Int) : Nat :=
  if m = 0 then 0 else
  let last := max (p + m.log2 - f.fractionBits) f.leastPlace
  min ((last - f.leastPlace).toNat * f.binade + Toward.even.cut false (m <<< (p - last).toNat) (last - p).toNat) f.infRung
theorem cut_neg (neg : Bool) (n d : Nat) : Toward.even.cut neg n d = Toward.even.cut false n d := rfl
theorem nearest_eq (neg : Bool) (m : Nat) (p : Int) : f.nearest neg m p = f.word neg (rnd f m p) := by
  unfold Format.nearest rnd
  split
  · rfl
  · rfl
theorem rnd_inf (m : Nat) (p : Int) : rnd f m p ≤ f.infRung := by
  unfold rnd; split
  · omega
  · exact Nat.min_le_right _ _
/-- the number on a rung -/
def rv (R : Nat) : Rat := if R < f.binade then ev R f.leastPlace else ev (f.binade + R % f.binade) (f.leastPlace + (R / f.binade - 1 : Nat))
theorem bin_pos : 0 < f.binade := Nat.two_pow_pos _
/-- a rung's own digits and place -/
theorem rv_kl (R : Nat) : ∃ K L, rv f R = ev K L ∧ f.leastPlace ≤ L ∧ K < 2 * f.binade ∧ (L = f.leastPlace ∨ f.binade ≤ K) ∧ R = (L - f.leastPlace).toNat * f.binade + K := by
  have hb := bin_pos f
  unfold rv
  split
  · exact ⟨_, _, rfl, by omega, by omega, .inl rfl, by simp⟩
  · rename_i h
    refine ⟨_, _, rfl, by omega, ?_, .inr (by omega), ?_⟩
    · have := Nat.mod_lt R hb; omega
    · have h1 : 1 ≤ R / f.binade := (Nat.le_div_iff_mul_le hb).2 (by omega)
      have h2 := Nat.div_add_mod R f.binade
      rw [show (f.leastPlace + ((R / f.binade - 1 : Nat) : Int) - f.leastPlace).toNat = R / f.binade - 1 by omega, Nat.sub_mul, Nat.one_mul]
      have h3 : f.binade ≤ R / f.binade * f.binade := Nat.le_mul_of_pos_left _ h1
      rw [Nat.mul_comm] at h2
      omega
theorem kept_le {m K : Nat} {p last : Int} (h : ev m p ≤ ev K last) : Toward.even.cut false (m <<< (p - last).toNat) (last - p).toNat ≤ K := by
  refine cut_le ?_
  rw [Nat.shiftLeft_eq]
  rcases Int.le_total last p with hp | hp
  · rw [ev_at m hp, ev_le] at h
    rw [show (last - p).toNat = 0 by omega]; simpa using h
  · rw [ev_at K hp, ev_le] at h
    rw [show (p - last).toNat = 0 by omega]; simpa using h
theorem le_kept {m K : Nat} {p last : Int} (h : ev K last ≤ ev m p) : K ≤ Toward.even.cut false (m <<< (p - last).toNat) (last - p).toNat := by
  refine le_cut ?_
  rw [Nat.shiftLeft_eq]
  rcases Int.le_total last p with hp | hp
  · rw [ev_at m hp, ev_le] at h
    rw [show (last - p).toNat = 0 by omega]; simpa using h
  · rw [ev_at K hp, ev_le] at h
    rw [show (p - last).toNat = 0 by omega]; simpa using h
theorem two_bin (L : Int) : ev (2 * f.binade) L = ev 1 (L + f.fractionBits + 1) ∧ ev f.binade L = ev 1 (L + f.fractionBits) := by
  unfold Format.binade
  constructor
  · rw [show 2 * 2 ^ f.fractionBits = 1 * 2 ^ (f.fractionBits + 1) by rw [Nat.pow_succ]; omega, ev_shift]; congr 1; omega
  · rw [show 2 ^ f.fractionBits = 1 * 2 ^ f.fractionBits by omega, ev_shift]
theorem one_le {a b : Int} : ev 1 a ≤ ev 1 b ↔ a ≤ b := by
  constructor
  · intro h
    rcases Int.le_total a b with hp | hp
    · exact hp
    · rw [ev_at 1 hp, ev_le] at h
      have := @Nat.lt_two_pow_self (a - b).toNat
      omega
  · intro h; exact ev_le_of h (Nat.le_refl _)
theorem one_lt {a b : Int} : ev 1 a < ev 1 b ↔ a < b := by
  rw [← Rat.not_le, one_le]; omega
/-- ROUNDING NEVER PASSES A NUMBER OF THE FORMAT. -/
theorem rnd_le {m R : Nat} {p : Int} (h : ev m p ≤ rv f R) : rnd f m p ≤ R := by
  obtain ⟨K, L, e, h1, h2, h3, h4⟩ := rv_kl f R
  rw [e] at h
  unfold rnd
  split
  · omega
  · rename_i hm
    have hl := ev_log hm p
    have hb := bin_pos f
    dsimp only
    refine Nat.le_trans (Nat.min_le_left _ _) ?_
    generalize hlast : max (p + (m.log2 : Int) - f.fractionBits) f.leastPlace = last
    have t1 := two_bin f last
    have t2 := two_bin f L
    rcases Int.lt_trichotomy last L with hc | hc | hc
    · have hK : f.binade ≤ K := by omega
      have hk2 : ev m p ≤ ev (2 * f.binade) last := by
        rw [t1.1]; refine Rat.le_of_lt (lt_of_lt_of_le' hl.2 (one_le.2 ?_)); omega
      have := kept_le hk2
      have hs : (last - f.leastPlace).toNat + 1 ≤ (L - f.leastPlace).toNat := by omega
      have := Nat.mul_le_mul_right f.binade hs
      rw [Nat.add_mul] at this
      omega
    · subst hc
      have := kept_le h
      omega
    · exfalso
      have hk2 : ev K L < ev (2 * f.binade) L := ev_lt.2 h2
      rw [t2.1] at hk2
      have := one_lt.1 (lt_of_le_of_lt' hl.1 (lt_of_le_of_lt' h hk2))
      omega
theorem le_rnd {m R : Nat} {p : Int} (h : rv f R ≤ ev m p) (hR : R ≤ f.infRung) : R ≤ rnd f m p := by
  obtain ⟨K, L, e, h1, h2, h3, h4⟩ := rv_kl f R
  rw [e] at h
  have hb := bin_pos f
  unfold rnd
  split
  · rename_i hm
    subst hm
    rw [ev_zero, ← ev_zero L, ev_le] at h
    rcases h3 with h3 | h3
    · subst h3; simp at h4; omega
    · omega
  · rename_i hm
    have hl := ev_log hm p
    dsimp only
    refine Nat.le_min.2 ⟨?_, hR⟩
    generalize hlast : max (p + (m.log2 : Int) - f.fractionBits) f.leastPlace = last
    have t1 := two_bin f last
    have t2 := two_bin f L
    rcases Int.lt_trichotomy last L with hc | hc | hc
    · exfalso
      have hK : f.binade ≤ K := by omega
      have := ev_le (p := L).2 hK
      rw [t2.2] at this
      have := one_lt.1 (lt_of_le_of_lt' (Rat.le_trans this h) hl.2)
      omega
    · subst hc
      have := le_kept h
      omega
    · have hk2 : ev f.binade last ≤ ev m p := by
        rw [t1.2]; refine Rat.le_trans (one_le.2 ?_) hl.1; omega
      have := le_kept hk2
      have hs : (L - f.leastPlace).toNat + 1 ≤ (last - f.leastPlace).toNat := by omega
      have := Nat.mul_le_mul_right f.binade hs
      rw [Nat.add_mul] at this
      omega
theorem rv_le {R S : Nat} (hR : R ≤ f.infRung) : rv f R ≤ rv f S ↔ R ≤ S := by
  have mono : ∀ R S, R ≤ f.infRung → rv f R ≤ rv f S → R ≤ S := by
    intro R S hR h
    obtain ⟨K, L, e, _⟩ := rv_kl f R
    have h1 := le_rnd f (m := K) (p := L) (R := R) (by rw [e]; exact Rat.le_refl) hR
    have h2 := rnd_le f (m := K) (p := L) (R := S) (by rw [← e]; exact h)
    omega
  refine ⟨mono R S hR, fun h => ?_⟩
  rcases Rat.le_total (a := rv f R) (b := rv f S) with h1 | h1
  · exact h1
  · by_cases hS : S ≤ f.infRung
    · have := mono S R hS h1
      have : R = S := by omega
      subst this; exact Rat.le_refl
    · have hb := bin_pos f
      -- beyond infinity the rungs still rise
      obtain ⟨K, L, e, a1, a2, a3, a4⟩ := rv_kl f R
      obtain ⟨K', L', e', b1, b2, b3, b4⟩ := rv_kl f S
      rw [e, e']
      rcases Int.lt_trichotomy L L' with hc | hc | hc
      · have hK : f.binade ≤ K' := by omega
        have t1 := two_bin f L
        have t2 := two_bin f L'
        refine Rat.le_of_lt (lt_of_lt_of_le' (ev_lt.2 a2) (Rat.le_trans ?_ (ev_le.2 hK)))
        rw [t1.1, t2.2, one_le]; omega
      · subst hc; rw [ev_le]; omega
      · exfalso
        have hK : f.binade ≤ K := by omega
        have hs : (L' - f.leastPlace).toNat + 1 ≤ (L - f.leastPlace).toNat := by omega
        have := Nat.mul_le_mul_right f.binade hs
        rw [Nat.add_mul] at this
        omega
theorem rv_lt {R S : Nat} (hS : S ≤ f.infRung) : rv f R < rv f S ↔ R < S := by
  rw [← Rat.not_le, rv_le f hS]; omega
/-- q rounds to the rung z -/
def RN (q : Rat) (z : Nat) : Prop := z ≤ f.infRung ∧ (∀ R, q ≤ rv f R → z ≤ R) ∧ ∀ R, R ≤ f.infRung → rv f R ≤ q → R ≤ z
theorem rn_rnd (m : Nat) (p : Int) {q : Rat} (h : ev m p = q) : RN f q (rnd f m p) :=
  ⟨rnd_inf f m p, fun R hR => rnd_le f (h ▸ hR), fun R h1 h2 => le_rnd f (h ▸ h2) h1⟩
theorem word_false (r : Nat) : f.word false r = r := rfl
theorem read_rung {r : Nat} (h : r < f.infRung) : ∃ K L, f.read r = .number false K L ∧ ev K L = rv f r := by
  have hlt := f.infRung_lt
  have h1 : r / f.signWeight = 0 := Nat.div_eq_of_lt (by omega)
  have h2 : r % f.signWeight = r := Nat.mod_eq_of_lt (by omega)
  unfold Format.read rv
  simp only [h1, h2]
  by_cases hb : r < f.binade
  · refine ⟨r, f.leastPlace, ?_, ?_⟩
    · rw [if_pos hb]; rfl
    · rw [if_pos hb]
  · refine ⟨f.binade + r % f.binade, f.leastPlace + (r / f.binade - 1 : Nat), ?_, ?_⟩
    · rw [if_neg hb, if_pos h]; rfl
    · rw [if_neg hb]
theorem mul_rn {x y : Nat} (hx : x < f.infRung) (hy : y < f.infRung) : ∃ z, f.mul x y = some z ∧ RN f (rv f x * rv f y) z := by
  obtain ⟨m, i, e1, v1⟩ := read_rung f hx
  obtain ⟨n, j, e2, v2⟩ := read_rung f hy
  refine ⟨rnd f (m * n) (i + j), ?_, rn_rnd f _ _ ?_⟩
  · simp [Format.mul, e1, e2, Datum.product, Format.write, nearest_eq, word_false]
  · rw [← v1, ← v2, ev_mul]
theorem add_rn {x y : Nat} (hx : x < f.infRung) (hy : y < f.infRung) : ∃ z, f.add x y = some z ∧ RN f (rv f x + rv f y) z := by
  obtain ⟨m, i, e1, v1⟩ := read_rung f hx
  obtain ⟨n, j, e2, v2⟩ := read_rung f hy
  refine ⟨rnd f (m * 2 ^ (i - min i j).toNat + n * 2 ^ (j - min i j).toNat) (min i j), ?_, rn_rnd f _ _ ?_⟩
  · simp only [Format.add, e1, e2, Datum.sum, Format.write, nearest_eq, signed, Nat.shiftLeft_eq, Bool.false_eq_true, if_false, Option.map_some]
    generalize m * 2 ^ (i - min i j).toNat = a
    generalize n * 2 ^ (j - min i j).toNat = b
    have a1 : ((a : Int) + (b : Int)).natAbs = a + b := by omega
    have a2 : (if (a : Int) + (b : Int) = 0 then false && false else decide ((a : Int) + (b : Int) < 0)) = false := by split <;> simp; omega
    rw [a1, a2, word_false]
  · rw [← v1, ← v2, ← ev_add, ev_shift, ev_shift]
    congr 2 <;> omega
theorem sub_rn {x y : Nat} (hx : x < f.infRung) (hy : y < f.infRung) (h : y ≤ x) : ∃ z, f.sub x y = some z ∧ RN f (rv f x - rv f y) z := by
  have hle := (rv_le f (Nat.le_of_lt hy)).2 h
  obtain ⟨m, i, e1, v1⟩ := read_rung f hx
  obtain ⟨n, j, e2, v2⟩ := read_rung f hy
  rw [← v1, ← v2, ev_at m (Int.min_le_left i j), ev_at n (Int.min_le_right i j), ev_le] at hle
  refine ⟨rnd f (m * 2 ^ (i - min i j).toNat - n * 2 ^ (j - min i j).toNat) (min i j), ?_, rn_rnd f _ _ ?_⟩
  · simp only [Format.sub, e1, e2, Datum.sum, Datum.opposite, Format.write, nearest_eq, signed, Nat.shiftLeft_eq, Bool.false_eq_true, if_false, Option.map_some, Bool.not_false, if_true]
    generalize m * 2 ^ (i - min i j).toNat = a at *
    generalize n * 2 ^ (j - min i j).toNat = b at *
    have a1 : ((a : Int) + -(b : Int)).natAbs = a - b := by omega
    have a2 : (if (a : Int) + -(b : Int) = 0 then false && true else decide ((a : Int) + -(b : Int) < 0)) = false := by split <;> simp; omega
    rw [a1, a2, word_false]
  · have : ∀ a b c : Rat, a + b = c → a = c - b := by grind
    apply this
    rw [← v1, ← v2, ev_at m (Int.min_le_left i j), ev_at n (Int.min_le_right i j), ev_add]
    congr 1; omega
theorem order_rung {x y : Nat} (hx : x < f.infRung) (hy : y < f.infRung) : f.order x y = some (compare x y) := by
  have hle := rv_le f (S := y) (Nat.le_of_lt hx)
  have hge := rv_le f (S := x) (Nat.le_of_lt hy)
  obtain ⟨m, i, e1, v1⟩ := read_rung f hx
  obtain ⟨n, j, e2, v2⟩ := read_rung f hy
  rw [← v1, ← v2, ev_at m (Int.min_le_left i j), ev_at n (Int.min_le_right i j), ev_le] at hle
  rw [← v1, ← v2, ev_at m (Int.min_le_left i j), ev_at n (Int.min_le_right i j), ev_le] at hge
  simp only [Format.order, e1, e2, Datum.order, signed, Nat.shiftLeft_eq]
  generalize m * 2 ^ (i - min i j).toNat = a at *
  generalize n * 2 ^ (j - min i j).toNat = b at *
  simp only [Bool.false_eq_true, if_false, Option.some.injEq]
  simp only [compare, compareOfLessAndEq]
  rcases Nat.lt_trichotomy a b with h | h | h
  · rw [if_pos (by omega), if_pos (by omega)]
  · rw [if_neg (by omega), if_pos (by omega), if_neg (by omega), if_pos (by omega)]
  · rw [if_neg (by omega), if_neg (by omega), if_neg (by omega), if_neg (by omega)]
theorem ev_pos {m : Nat} (h : 0 < m) (p : Int) : 0 < ev m p := by rw [← ev_zero p, ev_lt]; exact h
theorem ev_ratio (a b : Nat) (hb : 0 < b) (i j : Int) : ev a i / ev b j = ((a : Rat) / (b : Rat)) * (2 : Rat) ^ (i - j) := by
  unfold ev
  have h1 : (2 : Rat) ^ i = 2 ^ (i - j) * 2 ^ j := by rw [← Rat.zpow_add two_ne]; congr 1; omega
  have h2 := p2_pos j
  have h3 : (0 : Rat) < b := Rat.natCast_pos.2 hb
  rw [h1]
  grind
/-- a quotient's digits, with one more that tells whether all was taken -/
theorem div_rn {x y : Nat} (hx : x < f.infRung) (hy : y < f.infRung) (hy0 : 0 < y) : ∃ z, f.div x y = some z ∧ RN f (rv f x / rv f y) z := by
  obtain ⟨m, i, e1, v1⟩ := read_rung f hx
  obtain ⟨n, j, e2, v2⟩ := read_rung f hy
  have hn : 0 < n := by
    rcases Nat.eq_zero_or_pos n with h | h
    · exfalso
      have h0 := (rv_lt f (R := 0) (S := y) (Nat.le_of_lt hy)).2 hy0
      rw [← v2, h, ev_zero] at h0
      have : rv f 0 = 0 := by unfold rv; rw [if_pos (bin_pos f), ev_zero]
      rw [this] at h0
      exact absurd h0 (by decide)
    · exact h
  refine ⟨rnd f (2 * (m <<< (f.fractionBits + 2 + n.log2 - m.log2) / n) + (m <<< (f.fractionBits + 2 + n.log2 - m.log2) % n != 0).toNat) (i - j - (f.fractionBits + 2 + n.log2 - m.log2 : Nat) - 1), ?_, ?_⟩
  · simp only [Format.div, e1, e2, Datum.quotient, if_neg (show ¬ n = 0 by omega), Option.map_some, Format.write, nearest_eq, Bool.xor_false, word_false]
  · generalize hmore : f.fractionBits + 2 + n.log2 - m.log2 = more
    rw [Nat.shiftLeft_eq]
    generalize he : i - j - (more : Int) - 1 = e
    -- the exact quotient is D / n units of twice the last place
    have hq : rv f x / rv f y = ((m * 2 ^ more : Nat) : Rat) / (n : Rat) * (2 : Rat) ^ (e + 1) := by
      rw [← v1, ← v2, ev_ratio m n hn]
      have h1 : (2 : Rat) ^ (i - j) = 2 ^ more * 2 ^ (e + 1) := by rw [← Rat.zpow_natCast, ← Rat.zpow_add two_ne]; congr 1; omega
      rw [h1, Rat.natCast_mul, Rat.natCast_pow]
      have : ((2 : Nat) : Rat) = 2 := rfl
      rw [this]
      grind
    rcases Nat.eq_zero_or_pos m with hm | hm
    · subst hm
      have : (2 * (0 * 2 ^ more / n) + (0 * 2 ^ more % n != 0).toNat) = 0 := by simp
      rw [this]
      refine rn_rnd f 0 e ?_
      rw [hq, ev_zero]
      simp
      grind
    generalize hd : m * 2 ^ more = D at *
    have hlog := Nat.log2_self_le (show m ≠ 0 by omega)
    have hlog2 := @Nat.lt_log2_self n
    have hbig : 2 ^ (f.fractionBits + 1) ≤ D / n := by
      rw [Nat.le_div_iff_mul_le hn, ← hd]
      have h1 : 2 ^ (f.fractionBits + 1) * n ≤ 2 ^ (f.fractionBits + 1) * 2 ^ (n.log2 + 1) := Nat.mul_le_mul_left _ (Nat.le_of_lt hlog2)
      have h2 : 2 ^ m.log2 * 2 ^ more ≤ m * 2 ^ more := Nat.mul_le_mul_right _ hlog
      rw [← Nat.pow_add] at h1 h2
      have h3 := Nat.pow_le_pow_right (show 0 < 2 by omega) (show f.fractionBits + 1 + (n.log2 + 1) ≤ m.log2 + more by omega)
      omega
    have hdm := Nat.div_add_mod D n
    have hmod := Nat.mod_lt D hn
    have hn' : (0 : Rat) < n := Rat.natCast_pos.2 hn
    -- floor
    have lo : ev (2 * (D / n)) e ≤ rv f x / rv f y := by
      rw [hq, Nat.mul_comm, show 2 = 2 ^ 1 from rfl, ev_shift]
      unfold ev
      refine Rat.mul_le_mul_of_nonneg_right ?_ (Rat.le_of_lt (p2_pos _))
      have : ((D / n : Nat) : Rat) * n ≤ D := by rw [← Rat.natCast_mul, Rat.natCast_le_natCast]; exact Nat.div_mul_le_self D n
      rw [Rat.div_def]
      have h5 : (D : Rat) = D * (n : Rat)⁻¹ * n := by grind
      rw [h5] at this
      exact Rat.le_of_mul_le_mul_right this hn'
    have hi : rv f x / rv f y ≤ ev (2 * (D / n) + 2 * (D % n != 0).toNat) e := by
      rw [hq, show 2 * (D / n) + 2 * (D % n != 0).toNat = (D / n + (D % n != 0).toNat) * 2 ^ 1 by omega, ev_shift]
      unfold ev
      refine Rat.mul_le_mul_of_nonneg_right ?_ (Rat.le_of_lt (p2_pos _))
      have : (D : Rat) ≤ ((D / n + (D % n != 0).toNat : Nat) : Rat) * n := by
        rw [← Rat.natCast_mul, Rat.natCast_le_natCast]
        by_cases hz : D % n = 0
        · simp [hz]; exact Nat.le_of_eq (by rw [Nat.mul_comm]; omega)
        · have : (D % n != 0) = true := by simpa using hz
          rw [this, Bool.toNat_true, Nat.add_mul, Nat.mul_comm]; omega
      rw [Rat.div_def]
      have h5 : (D : Rat) = D * (n : Rat)⁻¹ * n := by grind
      rw [h5] at this
      exact Rat.le_of_mul_le_mul_right this hn'
    have strict : D % n ≠ 0 → ev (2 * (D / n)) e < rv f x / rv f y := by
      intro hz
      rw [hq, Nat.mul_comm, show 2 = 2 ^ 1 from rfl, ev_shift]
      unfold ev
      refine Rat.mul_lt_mul_of_pos_right ?_ (p2_pos _)
      have : ((D / n : Nat) : Rat) * n < D := by rw [← Rat.natCast_mul, Rat.natCast_lt_natCast, Nat.mul_comm]; omega
      rw [Rat.div_def]
      have h5 : (D : Rat) = D * (n : Rat)⁻¹ * n := by grind
      rw [h5] at this
      exact Rat.lt_of_mul_lt_mul_right this (Rat.le_of_lt hn')
    -- a number of the format is a whole number of double units, or far below
    have whole : ∀ R, (∃ T : Nat, rv f R = ev (2 * T) e) ∨ rv f R < ev (2 * (D / n)) e := by
      intro R
      obtain ⟨K, L, er, a1, a2, a3, a4⟩ := rv_kl f R
      by_cases hL : e + 1 ≤ L
      · refine .inl ⟨K * 2 ^ (L - (e + 1)).toNat, ?_⟩
        rw [er, show 2 * (K * 2 ^ (L - (e + 1)).toNat) = K * 2 ^ ((L - (e + 1)).toNat + 1) by rw [Nat.pow_succ]; grind, ev_shift]
        congr 1; omega
      · refine .inr ?_
        rw [er]
        refine lt_of_lt_of_le' (ev_lt.2 a2) ?_
        rw [(two_bin f L).1]
        have : ev 1 (L + f.fractionBits + 1) ≤ ev (2 ^ (f.fractionBits + 1)) e := by
          rw [show 2 ^ (f.fractionBits + 1) = 1 * 2 ^ (f.fractionBits + 1) by omega, ev_shift, one_le]; omega
        refine Rat.le_trans this (ev_le.2 ?_)
        omega
    refine ⟨rnd_inf f _ _, fun R hR => rnd_le f ?_, fun R h1 h2 => le_rnd f ?_ h1⟩
    · rcases whole R with ⟨T, hT⟩ | hlt
      · rw [hT] at hR ⊢
        rw [ev_le]
        by_cases hz : D % n = 0
        · have := ev_le.1 (Rat.le_trans lo hR)
          simp [hz]; omega
        · have := ev_lt.1 (lt_of_lt_of_le' (strict hz) hR)
          have h1 : (D % n != 0) = true := by simpa using hz
          rw [h1]; simp; omega
      · exact absurd (Rat.le_trans lo hR) (Rat.not_le.2 hlt)
    · rcases whole R with ⟨T, hT⟩ | hlt
      · rw [hT] at h2 ⊢
        rw [ev_le]
        have h3 := ev_le.1 (Rat.le_trans h2 hi)
        by_cases hz : D % n = 0
        · simp [hz] at h3 ⊢; omega
        · have h1 : (D % n != 0) = true := by simpa using hz
          rw [h1] at h3 ⊢
          simp at h3 ⊢
          have : ¬ T = D / n + 1 := by
            intro hT'
            -- the quotient would be whole
            have hh := strict hz
            have : rv f x / rv f y < ev (2 * (D / n + 1)) e := by
              rw [hq, Nat.mul_comm, show 2 = 2 ^ 1 from rfl, ev_shift]
              unfold ev
              refine Rat.mul_lt_mul_of_pos_right ?_ (p2_pos _)
              have : (D : Rat) < ((D / n + 1 : Nat) : Rat) * n := by rw [← Rat.natCast_mul, Rat.natCast_lt_natCast, Nat.add_mul, Nat.mul_comm]; omega
              rw [Rat.div_def]
              have h5 : (D : Rat) = D * (n : Rat)⁻¹ * n := by grind
              rw [h5] at this
              exact Rat.lt_of_mul_lt_mul_right this (Rat.le_of_lt hn')
            rw [← hT'] at this
            exact absurd h2 (Rat.not_le.2 this)
          omega
      · exact Rat.le_trans (Rat.le_of_lt hlt) (ev_le.2 (by omega))
end
end Go.Proofs.Ytjddlgmdbkaieaa
