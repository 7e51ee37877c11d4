/- Sums of points, their powers and roots, in the model's words of floats. No program stands here. -/
import Derived.Test.YtdhmnajkmeclnaaPhasT
import Derived.Test.YtdhmnajkmeclnaaFloats
import Derived.Test.YtdhmnajkmeclnaaFloatConv
namespace Go.Proofs.Ytdhmnajkmeclnaa
set_option linter.unusedVariables false
set_option linter.unusedSimpArgs false
open Ieee
theorem rvd_24 : rv double 4627448617123184640 = 24 := by decide +kernel
theorem rvd_576 : rv double 4648277765399773184 = 576 := by decide +kernel
theorem rvd_1152 : rv double 4652781365027143680 = 1152 := by decide +kernel
theorem rvd_64 : rv double 4634204016564240384 = 64 := by decide +kernel
theorem rvs_64 : rv single 1115684864 = 64 := by decide +kernel
def addW (a b : Nat) : Nat := (single.add a b).getD 0
def sumW (f : Nat → Nat) : Nat → Nat
  | 0 => 0
  | k + 1 => addW (sumW f k) (f k)
/-- a small word: at most two -/
def Small (x : Nat) : Prop := ∃ v r, x = single.word v r ∧ r ≤ 1073741824
theorem small_rv {r : Nat} (h : r ≤ 1073741824) : rv single r ≤ 2 := by
  rw [← rvs_2]
  exact (rv_le single (by rw [sinf]; omega)).2 h
theorem sum_at {f : Nat → Nat} : ∀ k, k ≤ 12 → (∀ j, j < k → Small (f j)) → ∃ v z, sumW f k = single.word v z ∧ z ≤ rnd single (2 * k) 0 := by
  intro k
  induction k with
  | zero => intro _ _; exact ⟨false, 0, rfl, Nat.zero_le _⟩
  | succ k ih =>
    intro hk hf
    obtain ⟨v, z, h1, h2⟩ := ih (by omega) (fun j hj => hf j (by omega))
    obtain ⟨t, r, h3, h4⟩ := hf k (by omega)
    obtain ⟨a1, a2, _⟩ := fin_single (show 2 * k < 2 ^ 24 by omega)
    obtain ⟨b1, b2, _⟩ := fin_single (show 2 * (k + 1) < 2 ^ 24 by omega)
    rw [ev_nat] at a2 b2
    have c1 : rv single z ≤ ((2 * k : Nat) : Rat) := by rw [← a2]; exact (rv_le single (by omega)).2 h2
    have c2 := small_rv h4
    have e : ((2 * (k + 1) : Nat) : Rat) = ((2 * k : Nat) : Rat) + 2 := by
      rw [show 2 * (k + 1) = 2 * k + 2 by omega, Rat.natCast_add]
      rfl
    obtain ⟨u, y, h5, h6⟩ := add_words single (s := v) (t := t) (r := z) (q := r) (R := rnd single (2 * (k + 1)) 0) (by omega) (by rw [sinf]; omega) (by rw [b2, e]; grind)
    refine ⟨u, y, ?_, h6⟩
    rw [sumW, addW, h1, h3, h5]
    rfl
theorem sum_step {f : Nat → Nat} {k : Nat} (hk : k < 12) (hf : ∀ j, j < k + 1 → Small (f j)) : single.add (sumW f k) (f k) = some (sumW f (k + 1)) := by
  obtain ⟨v, z, h1, h2⟩ := sum_at k (by omega) (fun j hj => hf j (by omega))
  obtain ⟨t, r, h3, h4⟩ := hf k (by omega)
  obtain ⟨a1, _, _⟩ := fin_single (show 2 * k < 2 ^ 24 by omega)
  obtain ⟨K, L, e1, _⟩ := read_sign single v (show z < single.infRung by omega)
  obtain ⟨M, N, e2, _⟩ := read_sign single t (show r < single.infRung by rw [sinf]; omega)
  have h : ∃ y, single.add (sumW f k) (f k) = some y := by
    rw [h1, h3, Format.add, e1, e2]
    exact ⟨_, rfl⟩
  obtain ⟨y, h⟩ := h
  rw [sumW, addW, h]
  rfl
/-- the sum is at most 24 -/
theorem sum_end {f : Nat → Nat} {k : Nat} (hk : k ≤ 12) (hf : ∀ j, j < k → Small (f j)) : ∃ v z, sumW f k = single.word v z ∧ z < single.infRung ∧ rv single z ≤ 24 := by
  obtain ⟨v, z, h1, h2⟩ := sum_at k hk hf
  obtain ⟨a1, a2, _⟩ := fin_single (show 2 * k < 2 ^ 24 by omega)
  rw [ev_nat] at a2
  refine ⟨v, z, h1, by omega, ?_⟩
  have c1 : rv single z ≤ ((2 * k : Nat) : Rat) := by rw [← a2]; exact (rv_le single (by omega)).2 h2
  have c2 : ((2 * k : Nat) : Rat) ≤ ((24 : Nat) : Rat) := Rat.natCast_le_natCast.2 (by omega)
  have : ((24 : Nat) : Rat) = 24 := rfl
  grind
def wideW (a : Nat) : Nat := double.write (single.read a)
theorem wide_at {v : Bool} {z : Nat} (hz : z < single.infRung) (h : rv single z ≤ 24) : floatToFloatBits .f32 (single.word v z) .f64 = some (wideW (single.word v z)) ∧ ∃ y, wideW (single.word v z) = double.word v y ∧ y ≤ 4627448617123184640 := by
  obtain ⟨K, L, h1, h2⟩ := read_sign single v hz
  have e : wideW (single.word v z) = double.word v (rnd double K L) := by
    rw [wideW, h1]
    exact nearest_eq double v K L
  have hy : rnd double K L ≤ 4627448617123184640 := rnd_le double (by rw [h2, rvd_24]; exact h)
  refine ⟨?_, _, e, hy⟩
  have hi : (double.read (double.word v (rnd double K L))).isInfinity = false := read_word_num double v _ (by rw [dinf]; omega)
  have hw : double.write (.number v K L) = double.word v (rnd double K L) := nearest_eq double v K L
  simp only [floatToFloatBits, FloatKind.decode, FloatKind.encode, FloatKind.format, h1, hw, hi, e]
  simp
theorem square_at {v : Bool} {y : Nat} (hy : y ≤ 4627448617123184640) : ∃ z, double.mul (double.word v y) (double.word v y) = some z ∧ z ≤ 4648277765399773184 := by
  have hy1 : y < double.infRung := by rw [dinf]; omega
  obtain ⟨K, L, h1, h2⟩ := read_sign double v hy1
  have y1 : rv double y ≤ 24 := by rw [← rvd_24]; exact (rv_le double (by rw [dinf]; omega)).2 hy
  have y0 := rv_nonneg double y
  refine ⟨rnd double (K * K) (L + L), ?_, rnd_le double ?_⟩
  · rw [Format.mul, h1]
    show some (double.nearest (v ^^ v) (K * K) (L + L)) = _
    rw [nearest_eq, Bool.xor_self, word_false]
  · rw [← ev_mul, h2, rvd_576]
    have := Rat.mul_le_mul_of_nonneg_left y1 y0
    grind
def powW (a b : Nat) : Nat := (double.add ((double.mul (wideW a) (wideW a)).getD 0) ((double.mul (wideW b) (wideW b)).getD 0)).getD 0
/-- the power of a sum -/
theorem pow_at {a b : Nat} (ha : ∃ v z, a = single.word v z ∧ z < single.infRung ∧ rv single z ≤ 24) (hb : ∃ v z, b = single.word v z ∧ z < single.infRung ∧ rv single z ≤ 24) :
    floatToFloatBits .f32 a .f64 = some (wideW a) ∧ floatToFloatBits .f32 b .f64 = some (wideW b) ∧ ∃ x y, double.mul (wideW a) (wideW a) = some x ∧ double.mul (wideW b) (wideW b) = some y ∧ double.add x y = some (powW a b) ∧ powW a b ≤ 4652781365027143680 := by
  obtain ⟨v, z, rfl, h1, h2⟩ := ha
  obtain ⟨t, r, rfl, h3, h4⟩ := hb
  obtain ⟨w1, y1, e1, g1⟩ := wide_at (v := v) h1 h2
  obtain ⟨w2, y2, e2, g2⟩ := wide_at (v := t) h3 h4
  obtain ⟨x, m1, b1⟩ := square_at (v := v) g1
  obtain ⟨y, m2, b2⟩ := square_at (v := t) g2
  have x1 : rv double x ≤ 576 := by rw [← rvd_576]; exact (rv_le double (by rw [dinf]; omega)).2 b1
  have x2 : rv double y ≤ 576 := by rw [← rvd_576]; exact (rv_le double (by rw [dinf]; omega)).2 b2
  obtain ⟨s, m3, _, b3, _⟩ := add_rn double (show x < double.infRung by rw [dinf]; omega) (show y < double.infRung by rw [dinf]; omega)
  have b4 : s ≤ 4652781365027143680 := b3 _ (by rw [rvd_1152]; grind)
  have ep : powW (single.word v z) (single.word t r) = s := by rw [powW, e1, e2, m1, m2]; simp only [Option.getD_some]; rw [m3]; rfl
  refine ⟨w1, w2, x, y, by rw [e1]; exact m1, by rw [e2]; exact m2, by rw [ep]; exact m3, by rw [ep]; exact b4⟩
theorem root_sound (n : Nat) : ∀ (todo root : Nat), root * root ≤ n → Datum.rootFrom n todo root * Datum.rootFrom n todo root ≤ n := by
  intro todo
  induction todo with
  | zero => intro root h; exact h
  | succ k ih =>
    intro root h
    rw [Datum.rootFrom]
    apply ih
    split
    · assumption
    · exact h
/-- a root is not far above the true one -/
theorem root_at {m : Nat} {i : Int} (D : Nat) : ∃ T q, Datum.root D (.number false m i) = some (.number false T q) ∧ 4 * (ev T q * ev T q) ≤ 9 * ev m i := by
  by_cases h0 : m = 0
  · subst h0
    refine ⟨0, i, by simp [Datum.root], ?_⟩
    rw [ev_zero]
    grind
  · refine ⟨_, _, by simp only [Datum.root]; rw [if_neg h0]; rfl, ?_⟩
    generalize hM : 2 * D - m.log2 + ((i - (2 * D - m.log2 : Nat)) % 2).toNat = more
    have hev : (i - (more : Int)) % 2 = 0 := by rw [← hM]; omega
    have hn : m <<< more ≠ 0 := by
      rw [Nat.shiftLeft_eq]
      exact Nat.mul_ne_zero h0 (Nat.ne_of_gt (Nat.two_pow_pos _))
    have hs := root_sound (m <<< more) ((m <<< more).log2 / 2 + 1) 0 (Nat.zero_le _)
    have hv : ev (m <<< more) (i - more) = ev m i := by
      rw [Nat.shiftLeft_eq, ev_shift]
      congr 1
      omega
    rw [← hv]
    generalize hN : m <<< more = n at *
    generalize Datum.rootFrom n (n.log2 / 2 + 1) 0 = w at *
    have hT : 2 * w + (w * w != n).toNat ≤ 2 * w + 1 := by
      cases (w * w != n) <;> simp
    generalize 2 * w + (w * w != n).toNat = T at *
    rw [ev_mul]
    have e1 : (i - (more : Int)) / 2 - 1 + ((i - (more : Int)) / 2 - 1) = i - more - 2 := by omega
    rw [e1]
    have hTT : T * T ≤ 9 * n := by
      have a := Nat.mul_le_mul hT hT
      have b : (2 * w + 1) * (2 * w + 1) = 4 * (w * w) + 4 * w + 1 := by
        simp only [Nat.mul_add, Nat.add_mul, Nat.mul_one, Nat.one_mul]
        have : 2 * w * (2 * w) = 4 * (w * w) := by rw [Nat.mul_mul_mul_comm]
        omega
      rw [b] at a
      by_cases hw : w = 0
      · subst hw; omega
      · have : w ≤ w * w := Nat.le_mul_of_pos_left w (Nat.pos_of_ne_zero hw)
        omega
    have e2 : ev (9 * n) (i - more - 2) = 9 * ev n (i - more - 2) := by
      simp only [ev, Rat.natCast_mul]
      have : ((9 : Nat) : Rat) = 9 := rfl
      rw [this, Rat.mul_assoc]
    have e3 : 4 * ev n (i - more - 2) = ev n (i - more) := by
      have h := ev_shift n 2 (i - more - 2)
      rw [show i - (more : Int) - 2 + (2 : Nat) = i - more by omega] at h
      rw [← h]
      simp only [ev, Rat.natCast_mul]
      have : ((2 ^ 2 : Nat) : Rat) = 4 := rfl
      rw [this]
      grind
    have h1 : ev (T * T) (i - more - 2) ≤ ev (9 * n) (i - more - 2) := ev_le.2 hTT
    grind
def rootW (x : Nat) : Nat := (double.sqrt x).getD 0
theorem sqrt_at {x : Nat} (hx : x ≤ 4652781365027143680) : double.sqrt x = some (rootW x) ∧ rootW x ≤ 4634204016564240384 := by
  have hx1 : x < double.infRung := by rw [dinf]; omega
  obtain ⟨K, L, h1, h2⟩ := read_rung double hx1
  obtain ⟨T, q, h3, h4⟩ := root_at (m := K) (i := L) (double.fractionBits + 2)
  have x1 : rv double x ≤ 1152 := by rw [← rvd_1152]; exact (rv_le double (by rw [dinf]; omega)).2 hx
  have e : double.sqrt x = some (rnd double T q) := by
    rw [Format.sqrt, h1, h3]
    show some (double.nearest false T q) = _
    rw [nearest_eq, word_false]
  have e2 : rootW x = rnd double T q := by rw [rootW, e]; rfl
  refine ⟨by rw [e, e2], ?_⟩
  rw [e2]
  refine rnd_le double ?_
  rw [rvd_64]
  have h0 := ev_nonneg T q
  rw [h2] at h4
  rcases (Rat.le_total : ev T q ≤ 64 ∨ 64 ≤ ev T q) with h | h
  · exact h
  · have := Rat.mul_le_mul_of_nonneg_left h h0
    have := Rat.mul_le_mul_of_nonneg_left h (show (0 : Rat) ≤ 64 by decide)
    grind
/-- the length of a sum, narrowed, and by how many it is divided -/
def togW (a b n : Nat) : Nat := (single.div (narW (rootW (powW a b))) (single.nearest false n 0)).getD 0
theorem tog_at {a b n : Nat} (hp : powW a b ≤ 4652781365027143680) (h1 : 1 ≤ n) (h2 : n ≤ 12) : floatToFloatBits .f64 (rootW (powW a b)) .f32 = some (narW (rootW (powW a b))) ∧ single.div (narW (rootW (powW a b))) (single.nearest false n 0) = some (togW a b n) ∧ togW a b n ≤ 1115684864 := by
  obtain ⟨_, hr⟩ := sqrt_at hp
  generalize hz : rootW (powW a b) = z at *
  obtain ⟨K, L, g1, g2⟩ := read_sign double false (show z < double.infRung by rw [dinf]; omega)
  rw [word_false] at g1
  have e : narW z = rnd single K L := by
    rw [narW, g1]
    show single.nearest false K L = _
    rw [nearest_eq, word_false]
  have hR : rnd single K L ≤ 1115684864 := rnd_le single (by
    rw [g2, rvs_64, ← rvd_64]
    exact (rv_le double (by rw [dinf]; omega)).2 hr)
  have hi : (single.read (rnd single K L)).isInfinity = false := by
    rw [← word_false single (rnd single K L)]
    exact read_word_num single false _ (by rw [sinf]; omega)
  have hw : single.write (.number false K L) = rnd single K L := by
    show single.nearest false K L = _
    rw [nearest_eq, word_false]
  refine ⟨?_, ?_⟩
  · simp only [floatToFloatBits, FloatKind.decode, FloatKind.encode, FloatKind.format, g1, hw, hi, e]
    simp
  · obtain ⟨f1, f2, f3⟩ := fin_single (show n < 2 ^ 24 by omega)
    rw [ev_nat] at f2
    have n1 : (1 : Rat) ≤ (n : Rat) := Rat.natCast_le_natCast.2 h1
    have hS0 : 0 < rnd single n 0 := by
      rcases Nat.eq_zero_or_pos (rnd single n 0) with h | h
      · rw [h] at f2
        have : rv single 0 = 0 := by decide +kernel
        rw [this] at f2
        grind
      · exact h
    obtain ⟨d, hd, _, d2, _⟩ := div_rn single (show rnd single K L < single.infRung by rw [sinf]; omega) f1 hS0
    have db : d ≤ 1115684864 := d2 _ (by
      have r1 : rv single (rnd single K L) ≤ 64 := by rw [← rvs_64]; exact (rv_le single (by rw [sinf]; omega)).2 hR
      have r0 := rv_nonneg single (rnd single K L)
      rw [rvs_64, f2]
      have c1 := Rat.mul_le_mul_of_nonneg_left n1 r0
      have c2 : rv single (rnd single K L) / (n : Rat) * (n : Rat) = rv single (rnd single K L) := Rat.div_mul_cancel (by grind)
      have : rv single (rnd single K L) / (n : Rat) ≤ rv single (rnd single K L) := Rat.le_of_mul_le_mul_right (by rw [c2]; grind) (show (0 : Rat) < (n : Rat) by grind)
      grind)
    have et : togW a b n = d := by rw [togW, hz, e, f3, hd]; rfl
    exact ⟨by rw [e, f3, hd, et], by rw [et]; exact db⟩
/-- such a word is finite -/
theorem tog_num {x : Nat} (hx : x ≤ 1115684864) : single.sub x x = some 0 ∧ nrm .f32 x = some x := by
  refine ⟨sub_self single (by rw [sinf]; omega) (by decide +kernel), ?_⟩
  rw [nrm, show FloatKind.f32.format = single from rfl, ← word_false single x, read_word_isNaN single false x (by rw [sinf]; omega)]
  rfl
end Go.Proofs.Ytdhmnajkmeclnaa
