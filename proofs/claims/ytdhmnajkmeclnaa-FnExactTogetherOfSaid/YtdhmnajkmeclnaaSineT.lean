/- Sines of small turns in 64 bits, in the model's words of floats. No program stands here. -/
import Derived.Test.YtdhmnajkmeclnaaFMono
import Derived.Test.YtdhmnajkmeclnaaFloorT
import Derived.Test.YtdhmnajkmeclnaaFloatConv
import Derived.Test.YtdhmnajkmeclnaaGreenT
namespace Go.Proofs.Ytdhmnajkmeclnaa
set_option linter.unusedVariables false
set_option linter.unusedSimpArgs false
open Ieee
theorem read_sign (f : Format) (s : Bool) {r : Nat} (hr : r < f.infRung) : ∃ (K : Nat) (L : Int), f.read (f.word s r) = .number s K L ∧ ev K L = rv f r := by
  obtain ⟨K, L, h1, h2⟩ := read_rung f hr
  rw [← word_false f r, fl_read f false hr] at h1
  rw [fl_read f s hr]
  by_cases hb : r < f.binade
  · rw [if_pos hb] at h1 ⊢
    injection h1 with _ h3 h4
    exact ⟨K, L, by rw [h3, h4], h2⟩
  · rw [if_neg hb] at h1 ⊢
    injection h1 with _ h3 h4
    exact ⟨K, L, by rw [h3, h4], h2⟩
/-- a sum of two numbers: no greater than both are, whatever their signs -/
theorem sum_bound (s t : Bool) (m n : Nat) (i j : Int) : ∃ (v : Bool) (T : Nat) (b : Int), Datum.sum (.number s m i) (.number t n j) = some (.number v T b) ∧ ev T b ≤ ev m i + ev n j := by
  refine ⟨_, _, _, rfl, ?_⟩
  rw [ev_at m (Int.min_le_left i j), ev_at n (Int.min_le_right i j), ev_add, ev_le]
  simp only [signed, Nat.shiftLeft_eq]
  generalize m * 2 ^ (i - min i j).toNat = a
  generalize n * 2 ^ (j - min i j).toNat = b
  cases s <;> cases t <;> simp only [if_true, if_false, Bool.false_eq_true] <;> omega
theorem add_words (f : Format) {s t : Bool} {r q R : Nat} (hr : r < f.infRung) (hq : q < f.infRung) (h : rv f r + rv f q ≤ rv f R) : ∃ v z, f.add (f.word s r) (f.word t q) = some (f.word v z) ∧ z ≤ R := by
  obtain ⟨K, L, h1, h2⟩ := read_sign f s hr
  obtain ⟨M, N, h3, h4⟩ := read_sign f t hq
  obtain ⟨v, T, b, h5, h6⟩ := sum_bound s t K M L N
  refine ⟨v, rnd f T b, ?_, rnd_le f (by grind)⟩
  rw [Format.add, h1, h3, h5, Option.map_some]
  exact congrArg some (nearest_eq f v T b)
theorem sub_words (f : Format) {s t : Bool} {r q R : Nat} (hr : r < f.infRung) (hq : q < f.infRung) (h : rv f r + rv f q ≤ rv f R) : ∃ v z, f.sub (f.word s r) (f.word t q) = some (f.word v z) ∧ z ≤ R := by
  obtain ⟨K, L, h1, h2⟩ := read_sign f s hr
  obtain ⟨M, N, h3, h4⟩ := read_sign f t hq
  obtain ⟨v, T, b, h5, h6⟩ := sum_bound s (!t) K M L N
  refine ⟨v, rnd f T b, ?_, rnd_le f (by grind)⟩
  rw [Format.sub, h1, h3]
  show Option.map f.write (Datum.sum (.number s K L) (.number (!t) M N)) = _
  rw [h5, Option.map_some]
  exact congrArg some (nearest_eq f v T b)
theorem mul_words (f : Format) {s t : Bool} {r q R : Nat} (hr : r < f.infRung) (hq : q < f.infRung) (h : rv f r * rv f q ≤ rv f R) : ∃ v z, f.mul (f.word s r) (f.word t q) = some (f.word v z) ∧ z ≤ R := by
  obtain ⟨K, L, h1, h2⟩ := read_sign f s hr
  obtain ⟨M, N, h3, h4⟩ := read_sign f t hq
  refine ⟨s ^^ t, rnd f (K * M) (L + N), ?_, rnd_le f (by rw [← ev_mul, h2, h4]; exact h)⟩
  rw [Format.mul, h1, h3]
  exact congrArg some (nearest_eq f _ _ _)

theorem dinf : double.infRung = 9218868437227405312 := by decide
theorem sinf : single.infRung = 2139095040 := by decide
theorem rvd_0 : rv double 0 = 0 := by decide +kernel
theorem rvd_1 : rv double 4607182418800017408 = 1 := by decide +kernel
theorem rvd_q : rv double 4598175219545276416 = 1 / 4 := by decide +kernel
theorem rvd_2 : rv double 4611686018427387904 = 2 := by decide +kernel
theorem rvd_4 : rv double 4616189618054758400 = 4 := by decide +kernel
theorem rvd_t : rv double 4618760256179416344 ≤ 7 := by decide +kernel
theorem rvs_2 : rv single 1073741824 = 2 := by decide +kernel
theorem rv_nonneg (f : Format) (r : Nat) : 0 ≤ rv f r := by
  obtain ⟨K, L, h, _⟩ := rv_kl f r
  rw [h]
  exact ev_nonneg K L
/-- a number less +0 is that number -/
theorem sub_zero (f : Format) {x : Nat} (hx : x < f.infRung) (h0 : 0 < f.infRung) (hz : rv f 0 = 0) : f.sub x 0 = some x := by
  obtain ⟨z, h1, h2, h3, h4⟩ := sub_rn f hx h0 (Nat.zero_le x)
  rw [hz] at h3 h4
  have a := h3 x (by grind)
  have b := h4 x (Nat.le_of_lt hx) (by grind)
  rw [h1, show z = x by omega]
theorem sub_self (f : Format) {x : Nat} (hx : x < f.infRung) (hz : rv f 0 = 0) : f.sub x x = some 0 := by
  obtain ⟨z, h1, h2, h3, h4⟩ := sub_rn f hx hx (Nat.le_refl x)
  have a := h3 0 (by rw [hz]; grind)
  rw [h1, show z = 0 by omega]
/-- below 1: nothing whole -/
theorem whole_none {x K : Nat} {L : Int} (h : double.read x = .number false K L) (hv : ev K L = rv double x) (hx : x < 4607182418800017408) : whole K L = 0 := by
  obtain ⟨w1, w2⟩ := whole_ev K L
  have h1 : rv double x < 1 := by
    rw [← rvd_1]
    exact (rv_lt double (by rw [dinf]; omega)).2 hx
  have h2 : (whole K L : Rat) < ((1 : Nat) : Rat) := by
    rw [ev_nat] at w1
    have : ((1 : Nat) : Rat) = 1 := rfl
    rw [this]
    grind
  have := Rat.natCast_lt_natCast.1 h2
  omega
/-- one step of the series -/
def stepW (u p n : Nat) : Nat := (double.sub 4607182418800017408 ((double.div ((double.mul u p).getD 0) (double.nearest false n 0)).getD 0)).getD 0
/-- the series, so many steps from 8 on -/
def serW (u : Nat) : Nat → Nat
  | 0 => 4607182418800017408
  | j + 1 => stepW u (serW u j) (2 * (8 - j) * (2 * (8 - j) + 1))
def turnW (x : Nat) : Nat := (double.mul x 4618760256179416344).getD 0
def sineW (x : Nat) : Nat := (double.mul (turnW x) (serW ((double.mul (turnW x) (turnW x)).getD 0) 8)).getD 0
/-- the divisors -/
theorem div_words : ∀ n, n < 273 → 6 ≤ n → double.nearest false n 0 < double.infRung ∧ 4618441417868443648 ≤ double.nearest false n 0 := by decide +kernel
theorem rvd_6 : rv double 4618441417868443648 = 6 := by decide +kernel
theorem step_all {u p n : Nat} (hu : u ≤ 4616189618054758400) (hp : p ≤ 4607182418800017408) (h6 : 6 ≤ n) (hn : n ≤ 272) : ∃ y x, double.mul u p = some y ∧ double.div y (double.nearest false n 0) = some x ∧ double.sub 4607182418800017408 x = some (stepW u p n) ∧ stepW u p n ≤ 4607182418800017408 := by
  obtain ⟨d1, d2⟩ := div_words n (by omega) h6
  generalize hd : double.nearest false n 0 = d at *
  have hu1 : u < double.infRung := by rw [dinf]; omega
  have hp1 : p < double.infRung := by rw [dinf]; omega
  have u1 : rv double u ≤ 4 := by rw [← rvd_4]; exact (rv_le double (by rw [dinf]; omega)).2 hu
  have p1 : rv double p ≤ 1 := by rw [← rvd_1]; exact (rv_le double (by rw [dinf]; omega)).2 hp
  have u0 := rv_nonneg double u
  have p0 := rv_nonneg double p
  have dv : 6 ≤ rv double d := by rw [← rvd_6]; exact (rv_le double (by rw [dinf]; omega)).2 d2
  obtain ⟨y, hy, _, y2, _⟩ := mul_rn double hu1 hp1
  have yb : y ≤ 4616189618054758400 := y2 _ (by
    rw [rvd_4]
    have := Rat.mul_le_mul_of_nonneg_left p1 u0
    grind)
  have y1 : rv double y ≤ 4 := by rw [← rvd_4]; exact (rv_le double (by rw [dinf]; omega)).2 yb
  have y0 := rv_nonneg double y
  obtain ⟨x, hx, _, x2, _⟩ := div_rn double (show y < double.infRung by rw [dinf]; omega) d1 (by omega)
  have xb : x ≤ 4607182418800017408 := x2 _ (by
    rw [rvd_1]
    have c2 : rv double y / rv double d * rv double d = rv double y := Rat.div_mul_cancel (by grind)
    exact Rat.le_of_mul_le_mul_right (by rw [c2]; grind) (show (0 : Rat) < rv double d by grind))
  obtain ⟨z, hz, _, z2, _⟩ := sub_rn double (show 4607182418800017408 < double.infRung by rw [dinf]; omega) (show x < double.infRung by rw [dinf]; omega) xb
  have zb : z ≤ 4607182418800017408 := z2 _ (by
    have := rv_nonneg double x
    grind)
  have e : stepW u p n = z := by rw [stepW, hy, hd]; simp only [Option.getD_some]; rw [hx]; simp only [Option.getD_some]; rw [hz]; rfl
  exact ⟨y, x, hy, hx, by rw [e]; exact hz, by rw [e]; exact zb⟩
theorem ser_le {u : Nat} (hu : u ≤ 4616189618054758400) : ∀ j, j ≤ 8 → serW u j ≤ 4607182418800017408 := by
  intro j
  induction j with
  | zero => intro _; exact Nat.le_refl _
  | succ j ih =>
    intro hj
    have hk : 1 ≤ 8 - j := by omega
    have hk2 : 8 - j ≤ 8 := by omega
    rw [serW]
    generalize 8 - j = k at *
    have := ih (by omega)
    have b1 : 6 ≤ 2 * k * (2 * k + 1) := Nat.le_trans (show 6 ≤ 2 * 1 * (2 * 1 + 1) by decide) (Nat.mul_le_mul (by omega) (by omega))
    have b2 : 2 * k * (2 * k + 1) ≤ 272 := Nat.le_trans (Nat.mul_le_mul (show 2 * k ≤ 16 by omega) (show 2 * k + 1 ≤ 17 by omega)) (by decide)
    obtain ⟨_, _, _, _, _, h⟩ := step_all hu this b1 b2
    exact h
theorem ser_step {u : Nat} (hu : u ≤ 4616189618054758400) {k : Nat} (h1 : 1 ≤ k) (h8 : k ≤ 8) : ∃ y x, double.mul u (serW u (8 - k)) = some y ∧ double.div y (double.nearest false (2 * k * (2 * k + 1)) 0) = some x ∧ double.sub 4607182418800017408 x = some (serW u (8 - k + 1)) := by
  have b1 : 6 ≤ 2 * k * (2 * k + 1) := Nat.le_trans (show 6 ≤ 2 * 1 * (2 * 1 + 1) by decide) (Nat.mul_le_mul (by omega) (by omega))
  have b2 : 2 * k * (2 * k + 1) ≤ 272 := Nat.le_trans (Nat.mul_le_mul (show 2 * k ≤ 16 by omega) (show 2 * k + 1 ≤ 17 by omega)) (by decide)
  obtain ⟨y, x, e1, e2, e3, _⟩ := step_all hu (ser_le hu (8 - k) (by omega)) b1 b2
  refine ⟨y, x, e1, e2, ?_⟩
  rw [serW, show 8 - (8 - k) = k by omega]
  exact e3
/-- all that a sine of at most a quarter takes -/
theorem sine_all {x : Nat} (hx : x ≤ 4598175219545276416) : ∃ u, double.mul x 4618760256179416344 = some (turnW x) ∧ double.mul (turnW x) (turnW x) = some u ∧ u ≤ 4616189618054758400 ∧ double.mul (turnW x) (serW u 8) = some (sineW x) ∧ sineW x ≤ 4611686018427387904 := by
  have hx1 : x < double.infRung := by rw [dinf]; omega
  have x1 : rv double x ≤ 1 / 4 := by rw [← rvd_q]; exact (rv_le double (by rw [dinf]; omega)).2 hx
  have x0 := rv_nonneg double x
  obtain ⟨z, hz, _, z2, _⟩ := mul_rn double hx1 (show 4618760256179416344 < double.infRung by rw [dinf]; omega)
  have zb : z ≤ 4611686018427387904 := z2 _ (by
    rw [rvd_2]
    have a := rvd_t
    have b := rv_nonneg double 4618760256179416344
    have c := Rat.mul_le_mul_of_nonneg_left a x0
    grind)
  have hz1 : z < double.infRung := by rw [dinf]; omega
  have zv : rv double z ≤ 2 := by rw [← rvd_2]; exact (rv_le double (by rw [dinf]; omega)).2 zb
  have z0 := rv_nonneg double z
  obtain ⟨u, hu, _, u2, _⟩ := mul_rn double hz1 hz1
  have ub : u ≤ 4616189618054758400 := u2 _ (by
    rw [rvd_4]
    have := Rat.mul_le_mul_of_nonneg_left zv z0
    grind)
  have sb := ser_le ub 8 (by omega)
  have sv : rv double (serW u 8) ≤ 1 := by rw [← rvd_1]; exact (rv_le double (by rw [dinf]; omega)).2 sb
  have s0 := rv_nonneg double (serW u 8)
  obtain ⟨r, hr, _, r2, _⟩ := mul_rn double hz1 (show serW u 8 < double.infRung by rw [dinf]; omega)
  have rb : r ≤ 4611686018427387904 := r2 _ (by
    rw [rvd_2]
    have := Rat.mul_le_mul_of_nonneg_left sv z0
    grind)
  have e1 : turnW x = z := by rw [turnW, hz]; rfl
  have e2 : sineW x = r := by rw [sineW, e1, hu]; simp only [Option.getD_some]; rw [hr]; rfl
  exact ⟨u, by rw [e1]; exact hz, by rw [e1]; exact hu, ub, by rw [e1, e2]; exact hr, by rw [e2]; exact rb⟩
/-- the quarters that are taken off -/
def redW : Nat → Nat → Nat → Option (Nat × Nat)
  | 0, _, _ => none
  | k + 1, f, q => if 4598175219545276416 ≤ f then (match double.sub f 4598175219545276416 with | some g => redW k g (q + 1) | none => none) else some (f, q)
def quoT (t p : Nat) : Nat := (double.div (double.nearest false t 0) (double.nearest false p 0)).getD 0
def turnsB (t p : Nat) : Bool := double.div (double.nearest false t 0) (double.nearest false p 0) == some (quoT t p) && (decide (quoT t p < 4607182418800017408) && (redW 4 (quoT t p) 0).isSome)
theorem turns_ok : ∀ p, p < 61 → ∀ t, t < p → turnsB t p = true := by decide +kernel
/-- the constants of the loop -/
theorem loop_words : ∀ k, k < 9 → 1 ≤ k → double.mul 4611686018427387904 (double.nearest false k 0) = some (double.nearest false (2 * k) 0) ∧ double.add (double.nearest false (2 * k) 0) 4607182418800017408 = some (double.nearest false (2 * k + 1) 0) ∧
    double.mul (double.nearest false (2 * k) 0) (double.nearest false (2 * k + 1) 0) = some (double.nearest false (2 * k * (2 * k + 1)) 0) ∧ double.sub (double.nearest false k 0) 4607182418800017408 = some (double.nearest false (k - 1) 0) := by decide +kernel
end Go.Proofs.Ytdhmnajkmeclnaa
