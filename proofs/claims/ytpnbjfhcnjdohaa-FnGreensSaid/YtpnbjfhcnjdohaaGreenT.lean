/- Green waves, in the model's words of floats: what is left of a quotient, and where it falls on the steps. No program stands here. -/
import Derived.Test.YtpnbjfhcnjdohaaFMono
import Derived.Test.YtpnbjfhcnjdohaaFloorT
import Derived.Test.YtpnbjfhcnjdohaaFloatConv
namespace Go.Proofs.Ytpnbjfhcnjdohaa
set_option linter.unusedVariables false
open Ieee
theorem whole_ev (m : Nat) (e : Int) : ev (whole m e) 0 ≤ ev m e ∧ ev m e < ev (whole m e + 1) 0 := by
  unfold whole
  rw [Nat.shiftLeft_eq]
  by_cases h : 0 ≤ e
  · have a1 : (-e).toNat = 0 := by omega
    rw [a1, Nat.pow_zero, Nat.div_one]
    have a2 : ev (m * 2 ^ e.toNat) 0 = ev m e := by
      rw [ev_shift]; congr 1; omega
    constructor
    · rw [a2]; exact Rat.le_refl
    · rw [← a2, ev_lt]; omega
  · have a1 : e.toNat = 0 := by omega
    rw [a1, Nat.pow_zero, Nat.mul_one]
    obtain ⟨d, hd⟩ : ∃ d : Nat, (-e).toNat = d := ⟨_, rfl⟩
    rw [hd]
    have hp := Nat.two_pow_pos d
    have b : ∀ n : Nat, ev n 0 = ev (n * 2 ^ d) e := fun n => by rw [ev_shift]; congr 1; omega
    have h1 := Nat.div_add_mod m (2 ^ d)
    have h2 := Nat.mod_lt m hp
    constructor
    · rw [b, ev_le, Nat.mul_comm]; omega
    · rw [b, ev_lt, Nat.add_mul, Nat.one_mul, Nat.mul_comm]; omega
theorem fin_single {N : Nat} (h : N < 2 ^ 24) : rnd single N 0 < single.infRung ∧ rv single (rnd single N 0) = ev N 0 ∧ single.nearest false N 0 = rnd single N 0 := by
  have e0 : single.nearest false N 0 = rnd single N 0 := by rw [nearest_eq, word_false]
  have s1 : single.leastPlace = -149 := by decide
  have s2 : single.fractionBits = 23 := rfl
  have s3 : single.exponentBits = 8 := rfl
  by_cases h0 : N = 0
  · subst h0
    have e1 : rnd single 0 0 = 0 := by rw [← e0]; rfl
    rw [e1]
    refine ⟨by decide, ?_, by rw [← e1]; exact e0⟩
    rw [rv, if_pos (show 0 < single.binade from Nat.two_pow_pos _), ev_zero, ev_zero]
  · have hl := (Nat.log2_lt h0).2 h
    obtain ⟨j, hj⟩ := fl_write single (s := false) (e := 0) h0 (by rw [s2]; exact h) (by omega) (by rw [s1, s2, s3]; omega)
    rw [e0] at hj
    have hlt : rnd single N 0 < single.infRung := by
      rcases Nat.lt_or_ge (rnd single N 0) single.infRung with h1 | h1
      · exact h1
      · have h2 := rnd_inf single N 0
        have h3 : rnd single N 0 = single.infRung := by omega
        rw [h3] at hj
        have h4 : single.read single.infRung = .infinity false := by decide
        rw [h4] at hj
        cases hj
    obtain ⟨K, L, h1, h2⟩ := read_rung single hlt
    rw [hj] at h1
    injection h1 with _ h3 h4
    refine ⟨hlt, ?_, e0⟩
    rw [← h2, ← h3, ← h4, ev_shift]
    congr 1
    omega
theorem ev_nat (n : Nat) : ev n 0 = (n : Rat) := by rw [ev, Rat.zpow_zero, Rat.mul_one]
theorem rv_half : rv single 1056964608 = 1 / 2 := by decide +kernel
theorem rv_unit : rv single 1065353216 = 1 := by decide +kernel
theorem rv_100 : rv single 1120403456 = 100 := by decide +kernel
theorem rv_101 : rv single 1120534528 = 101 := by decide +kernel
theorem rv_mil : rv single 1232348160 = 1000000 := by decide +kernel
theorem nat_of_le {n k : Nat} (h : (n : Rat) ≤ (k : Rat)) : n ≤ k := Rat.natCast_le_natCast.1 h
/-- what is left of a quotient below a million -/
theorem left_of {q : Nat} (hq : q < 1232348160) : ∃ (K : Nat) (L : Int) (x : Nat), single.read q = .number false K L ∧ whole K L < 2 ^ 24 ∧ single.sub q (single.nearest false (whole K L) 0) = some x ∧ x ≤ 1065353216 := by
  have hinf : single.infRung = 2139095040 := by decide
  have hq1 : q < single.infRung := by rw [hinf]; omega
  obtain ⟨K, L, h1, h2⟩ := read_rung single hq1
  obtain ⟨w1, w2⟩ := whole_ev K L
  have h3 : rv single q < 1000000 := by
    rw [← rv_mil]
    exact (rv_lt single (by rw [hinf]; omega)).2 hq
  have hN : whole K L < 2 ^ 24 := by
    have : (whole K L : Rat) ≤ ((1000000 : Nat) : Rat) := by
      rw [ev_nat] at w1
      have : ((1000000 : Nat) : Rat) = 1000000 := by rfl
      rw [this]
      grind
    have := nat_of_le this
    omega
  obtain ⟨f1, f2, f3⟩ := fin_single hN
  have hle : rnd single (whole K L) 0 ≤ q := (rv_le single (Nat.le_of_lt f1)).1 (by rw [f2]; grind)
  obtain ⟨x, hx, r1, r2, r3⟩ := sub_rn single hq1 f1 hle
  refine ⟨K, L, x, h1, hN, by rw [f3]; exact hx, r2 _ ?_⟩
  rw [rv_unit, f2]
  rw [ev_nat] at w1 ⊢
  rw [ev_nat] at w2
  have : ((whole K L + 1 : Nat) : Rat) = (whole K L : Rat) + 1 := by rw [Rat.natCast_add]; rfl
  grind
/-- where it falls on the steps -/
theorem steps_of {x n : Nat} (hx : x ≤ 1065353216) (h1 : 1 ≤ n) (h2 : n ≤ 100) : ∃ (y z K : Nat) (L : Int) (m : Nat), single.mul x (single.nearest false n 0) = some y ∧ single.add y 1056964608 = some z ∧ single.read z = .number false K L ∧ whole K L < 2 ^ 24 ∧
    single.div (single.nearest false (whole K L) 0) (single.nearest false n 0) = some m ∧ m < single.infRung := by
  have hinf : single.infRung = 2139095040 := by decide
  obtain ⟨s1, s2, s3⟩ := fin_single (show n < 2 ^ 24 by omega)
  rw [s3]
  have hx1 : x < single.infRung := by rw [hinf]; omega
  have vx : rv single x ≤ 1 := by rw [← rv_unit]; exact (rv_le single (by rw [hinf]; omega)).2 hx
  have vx0 : 0 ≤ rv single x := by
    obtain ⟨a, b, _, e⟩ := read_rung single hx1
    rw [← e]; exact ev_nonneg a b
  rw [ev_nat] at s2
  have n1 : (1 : Rat) ≤ (n : Rat) := Rat.natCast_le_natCast.2 h1
  have n2 : (n : Rat) ≤ 100 := Rat.natCast_le_natCast.2 h2
  obtain ⟨y, hy, _, y2, _⟩ := mul_rn single hx1 s1
  have yb : y ≤ 1120403456 := y2 _ (by
    rw [rv_100, s2]
    have := Rat.mul_le_mul_of_nonneg_right vx (show (0 : Rat) ≤ (n : Rat) by grind)
    grind)
  have hy1 : y < single.infRung := by rw [hinf]; omega
  have vy : rv single y ≤ 100 := by rw [← rv_100]; exact (rv_le single (by rw [hinf]; omega)).2 yb
  obtain ⟨z, hz, _, z2, _⟩ := add_rn single hy1 (show 1056964608 < single.infRung by rw [hinf]; omega)
  have zb : z ≤ 1120534528 := z2 _ (by rw [rv_101, rv_half]; grind)
  have hz1 : z < single.infRung := by rw [hinf]; omega
  have vz : rv single z ≤ 101 := by rw [← rv_101]; exact (rv_le single (by rw [hinf]; omega)).2 zb
  obtain ⟨K, L, k1, k2⟩ := read_rung single hz1
  obtain ⟨w1, w2⟩ := whole_ev K L
  have hN : whole K L ≤ 101 := nat_of_le (by
    rw [ev_nat] at w1
    have : ((101 : Nat) : Rat) = 101 := rfl
    rw [this]
    grind)
  obtain ⟨t1, t2, t3⟩ := fin_single (show whole K L < 2 ^ 24 by omega)
  rw [ev_nat] at t2
  have hS0 : 0 < rnd single n 0 := by
    rcases Nat.eq_zero_or_pos (rnd single n 0) with h | h
    · rw [h] at s2
      have : rv single 0 = 0 := by decide +kernel
      rw [this] at s2
      grind
    · exact h
  obtain ⟨m, hm, _, m2, _⟩ := div_rn single t1 s1 hS0
  have mb : m ≤ 1120534528 := m2 _ (by
    rw [rv_101, t2, s2]
    have a1 : (whole K L : Rat) ≤ 101 := Rat.natCast_le_natCast.2 hN
    have a0 : (0 : Rat) ≤ (whole K L : Rat) := Rat.natCast_nonneg
    have : (whole K L : Rat) / (n : Rat) ≤ (whole K L : Rat) := by
      have c1 := Rat.mul_le_mul_of_nonneg_left n1 a0
      have c2 : (whole K L : Rat) / (n : Rat) * (n : Rat) = (whole K L : Rat) := Rat.div_mul_cancel (by grind)
      exact Rat.le_of_mul_le_mul_right (by rw [c2]; grind) (show (0 : Rat) < (n : Rat) by grind)
    grind)
  exact ⟨y, z, K, L, m, hy, hz, k1, by omega, by rw [t3]; exact hm, by rw [hinf]; omega⟩
/-- a quotient of -0: all that comes of it, for each number of steps -/
theorem neg_steps : ∀ n : Nat, n < 101 → 1 ≤ n → single.mul 2147483648 (single.nearest false n 0) = some 2147483648 ∧ single.mul 0 (single.nearest false n 0) = some 0 ∧ single.div 0 (single.nearest false n 0) = some 0 := by decide +kernel
theorem neg_facts : single.sub 2147483648 2147483648 = some 0 ∧ single.sub 2147483648 0 = some 2147483648 ∧ single.add 2147483648 1056964608 = some 1056964608 ∧ single.add 0 1056964608 = some 1056964608 ∧
    single.sub 0 2147483648 = some 0 ∧ single.sub 0 0 = some 0 ∧ single.read 1056964608 = .number false 8388608 (-24) ∧ whole 8388608 (-24) = 0 ∧ single.nearest false 0 0 = 0 := by decide +kernel
/-- a difference of two that are not negative: a number, and never -0 -/
theorem sub_word {m x : Nat} (hm : m < single.infRung) (hx : x < single.infRung) : ∃ e, single.sub m x = some e ∧ e ≠ 2147483648 ∧ (single.read e).isNaN = false := by
  obtain ⟨M, i, h1, _⟩ := read_rung single hm
  obtain ⟨X, j, h2, _⟩ := read_rung single hx
  obtain ⟨_, b1, _⟩ := single_num h1
  obtain ⟨_, b2, _⟩ := single_num h2
  have hsw : single.signWeight = 2147483648 := by decide
  have hinf : single.infRung = 2139095040 := by decide
  unfold Format.sub
  rw [h1, h2]
  refine ⟨_, rfl, ?_, write_isNaN _ _ rfl⟩
  show single.nearest _ _ _ ≠ _
  generalize signed false M (i - min i j).toNat + signed (!false) X (j - min i j).toNat = total
  have hb : (-149 : Int) ≤ min i j := by omega
  generalize min i j = base at *
  by_cases h0 : total = 0
  · subst h0
    rw [if_pos rfl]
    simp [Format.nearest, Format.word]
  · rw [if_neg h0, nearest_eq]
    have h3 : 1 ≤ rnd single total.natAbs base := le_rnd single (by
      have e1 : rv single 1 = ev 1 (-149) := by rw [rv, if_pos (by decide)]; rfl
      rw [e1]
      exact ev_le_of hb (by omega)) (by decide)
    have h4 := rnd_inf single total.natAbs base
    unfold Format.word
    split <;> omega
/-- the word of a number: a rung, or a rung under the sign -/
theorem word_parts {d : Nat} (hw : d < 4294967296) (hn : (single.read d).isNaN = false) : ∃ (s : Bool) (r : Nat), r ≤ single.infRung ∧ d = single.word s r := by
  have hsw : single.signWeight = 2147483648 := by decide
  have hinf : single.infRung = 2139095040 := by decide
  have hb : single.binade = 8388608 := by decide
  have hm : ∀ r, ¬ r < single.binade → ¬ r < single.infRung → ¬ r = single.infRung → d % single.signWeight = r → False := by
    intro r a1 a2 a3 a4
    unfold Format.read at hn
    simp only [a4, if_neg a1, if_neg a2, if_neg a3, Datum.isNaN] at hn
    simp at hn
  have hr : d % 2147483648 ≤ single.infRung := by
    rcases Nat.lt_or_ge single.infRung (d % 2147483648) with h | h
    · exact (hm (d % 2147483648) (by rw [hb]; rw [hinf] at h; omega) (by omega) (by omega) (by rw [hsw])).elim
    · exact h
  rcases Nat.lt_or_ge d 2147483648 with h | h
  · exact ⟨false, d, by rw [Nat.mod_eq_of_lt h] at hr; exact hr, rfl⟩
  · refine ⟨true, d % 2147483648, hr, ?_⟩
    show d = single.signWeight + _
    rw [hsw]
    omega
theorem read_signed (s : Bool) {r : Nat} (hr : r < single.infRung) : ∃ (K : Nat) (L : Int), single.read (single.word s r) = .number s K L ∧ ev K L = rv single r := by
  obtain ⟨K, L, h1, h2⟩ := read_rung single hr
  rw [← word_false single r, fl_read single false hr] at h1
  rw [fl_read single s hr]
  by_cases hb : r < single.binade
  · rw [if_pos hb] at h1 ⊢
    injection h1 with _ h3 h4
    exact ⟨K, L, by rw [h3, h4], h2⟩
  · rw [if_neg hb] at h1 ⊢
    injection h1 with _ h3 h4
    exact ⟨K, L, by rw [h3, h4], h2⟩
/-- two numbers that stand equal, neither -0, are the same word -/
theorem order_same {s t : Bool} {r q : Nat} (hr : r < single.infRung) (hq : q < single.infRung) (z1 : s = true → 1 ≤ r) (z2 : t = true → 1 ≤ q) (h : single.order (single.word s r) (single.word t q) = some .eq) : single.word s r = single.word t q := by
  obtain ⟨K, L, e1, v1⟩ := read_signed s hr
  obtain ⟨N, J, e2, v2⟩ := read_signed t hq
  have hle := rv_le single (S := q) (Nat.le_of_lt hr)
  have hge := rv_le single (S := r) (Nat.le_of_lt hq)
  have w1 := v1
  have w2 := v2
  rw [ev_at K (Int.min_le_left L J)] at v1
  rw [ev_at N (Int.min_le_right L J)] at v2
  simp only [Format.order, e1, e2, Datum.order, signed, Nat.shiftLeft_eq] at h
  generalize K * 2 ^ (L - min L J).toNat = a at *
  generalize N * 2 ^ (J - min L J).toNat = b at *
  have pos : ∀ {x c : Nat}, x < single.infRung → 1 ≤ x → ev c (min L J) = rv single x → c ≠ 0 := by
    intro x c hx h1 hv h0
    subst h0
    rw [ev_zero] at hv
    have : rv single x ≤ rv single 0 := by rw [← hv]; decide +kernel
    have := (rv_le single (Nat.le_of_lt hx)).1 this
    omega
  have same : a = b → r = q := by
    intro hab
    subst hab
    rw [← v1, ← v2] at hle hge
    have h1 := hle.1 Rat.le_refl
    have h2 := hge.1 Rat.le_refl
    omega
  simp only [Option.some.injEq, compare, compareOfLessAndEq] at h
  have cmp : ∀ {x y : Int}, (if x < y then Ordering.lt else if x = y then Ordering.eq else Ordering.gt) = .eq → x = y := by
    intro x y hxy
    split at hxy
    · cases hxy
    · split at hxy
      · assumption
      · cases hxy
  have h := cmp h
  cases s <;> cases t <;> simp only [Bool.false_eq_true, if_false, if_true] at h
  · rw [same (by omega)]
  · exact absurd (show b = 0 by omega) (pos hq (z2 rfl) v2)
  · exact absurd (show a = 0 by omega) (pos hr (z1 rfl) v1)
  · rw [same (by omega)]
end Go.Proofs.Ytpnbjfhcnjdohaa
