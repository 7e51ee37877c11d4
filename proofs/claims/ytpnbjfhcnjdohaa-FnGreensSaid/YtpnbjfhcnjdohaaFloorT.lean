/- Floors of floats that are not negative: by way of float64 and by way of int64 the same. No program stands here. -/
import Ieee.Arith
import Derived.Laws.FloatBits
namespace Go.Proofs.Ytpnbjfhcnjdohaa
open Ieee
set_option linter.unusedVariables false
theorem fl_exact (way : Toward) (neg : Bool) (a d : Nat) : way.cut neg (a * 2 ^ d) d = a := by
  unfold Toward.cut
  have hp := Nat.two_pow_pos d
  by_cases ha : a = 0
  · subst ha
    have hg : 0 < 1 <<< min d 2 := by rw [Nat.one_shiftLeft]; exact Nat.two_pow_pos _
    have hg0 : ¬ (1 <<< min d 2 = 0) := by omega
    simp only [Nat.zero_mul, Nat.zero_div, Nat.zero_mod, Nat.log2_zero, Nat.zero_add, Nat.mul_zero]
    cases way <;> simp
  · have hl : d ≤ (a * 2 ^ d).log2 := by
      rw [Nat.le_log2 (by have := Nat.mul_pos (Nat.pos_of_ne_zero ha) hp; omega)]
      exact Nat.le_mul_of_pos_left _ (Nat.pos_of_ne_zero ha)
    have hmin : min d ((a * 2 ^ d).log2 + 2) = d := by omega
    have h1 : a * 2 ^ d / 2 ^ d = a := Nat.mul_div_cancel _ hp
    have h2 : a * 2 ^ d % 2 ^ d = 0 := Nat.mul_mod_left _ _
    have h3 : ¬ (2 ^ d = 0) := by omega
    simp only [hmin, Nat.one_shiftLeft, h1, h2]
    cases way <;> simp
theorem fl_cut {way : Toward} (hw : way = .down ∨ way = .zero) (n d : Nat) : way.cut false n d = n / 2 ^ d := by
  have e : n / (1 <<< min d (n.log2 + 2)) = n / 2 ^ d := by
    by_cases h : d ≤ n.log2 + 2
    · rw [Nat.min_eq_left h, Nat.one_shiftLeft]
    · rw [Nat.min_eq_right (by omega), Nat.one_shiftLeft]
      have h1 : n < 2 ^ (n.log2 + 1) := Nat.lt_log2_self
      have h2 : 2 ^ (n.log2 + 1) ≤ 2 ^ (n.log2 + 2) := Nat.pow_le_pow_right (by omega) (by omega)
      have h3 : 2 ^ (n.log2 + 2) ≤ 2 ^ d := Nat.pow_le_pow_right (by omega) (by omega)
      rw [Nat.div_eq_of_lt (by omega), Nat.div_eq_of_lt (by omega)]
  unfold Toward.cut
  rcases hw with rfl | rfl <;> simp [e]
theorem fl_read (f : Format) (s : Bool) {r : Nat} (h : r < f.infRung) : f.read (f.word s r) = if r < f.binade then .number s r f.leastPlace else .number s (f.binade + r % f.binade) (f.leastPlace + (r / f.binade - 1 : Nat)) := by
  have hr : r < f.signWeight := Nat.lt_trans h f.infRung_lt
  have hsw : 0 < f.signWeight := by omega
  have h1 : f.word s r % f.signWeight = r := by
    unfold Format.word
    cases s
    · simpa using Nat.mod_eq_of_lt hr
    · simpa using Nat.mod_eq_of_lt hr
  have h2 : (f.word s r / f.signWeight % 2 == 1) = s := by
    unfold Format.word
    cases s
    · simp [Nat.div_eq_of_lt hr]
    · have : (f.signWeight + r) / f.signWeight = 1 := by
        rw [Nat.add_div_left _ hsw, Nat.div_eq_of_lt hr]
      simp [this]
  unfold Format.read
  simp only [h1, h2]
  by_cases hb : r < f.binade
  · rw [if_pos hb, if_pos hb]
  · rw [if_neg hb, if_neg hb, if_pos h]
/-- a number that the format has: read back as it was written -/
theorem fl_write (f : Format) {s : Bool} {m : Nat} {e : Int} (h0 : m ≠ 0) (hm : m < 2 ^ (f.fractionBits + 1)) (he : f.leastPlace ≤ e)
    (hfit : (max (e + m.log2 - f.fractionBits) f.leastPlace - f.leastPlace).toNat + 2 ≤ 2 ^ f.exponentBits - 1) :
    ∃ j : Nat, f.read (f.nearest s m e) = .number s (m * 2 ^ j) (e - j) := by
  have hlog : m.log2 ≤ f.fractionBits := by
    have := (Nat.log2_lt h0).2 hm
    omega
  obtain ⟨last, hlast⟩ : ∃ last, last = max (e + (m.log2 : Int) - f.fractionBits) f.leastPlace := ⟨_, rfl⟩
  have hle : last ≤ e := by omega
  obtain ⟨j, hj⟩ : ∃ j : Nat, (e - last).toNat = j := ⟨_, rfl⟩
  have hd : (last - e).toNat = 0 := by omega
  have hB : f.binade = 2 ^ f.fractionBits := rfl
  have hlt := Nat.lt_log2_self (n := m)
  have hge := Nat.log2_self_le h0
  have hK2 : m * 2 ^ j < 2 * f.binade := by
    rw [hB]
    have h1 : j ≤ f.fractionBits - m.log2 := by omega
    calc m * 2 ^ j < 2 ^ (m.log2 + 1) * 2 ^ j := Nat.mul_lt_mul_of_pos_right hlt (Nat.two_pow_pos _)
      _ = 2 ^ (m.log2 + 1 + j) := by rw [← Nat.pow_add]
      _ ≤ 2 ^ (f.fractionBits + 1) := Nat.pow_le_pow_right (by omega) (by omega)
      _ = 2 * 2 ^ f.fractionBits := by rw [Nat.pow_succ, Nat.mul_comm]
  have hK1 : last = f.leastPlace ∨ f.binade ≤ m * 2 ^ j := by
    by_cases e1 : last = f.leastPlace
    · exact .inl e1
    · right
      have h1 : j = f.fractionBits - m.log2 := by omega
      rw [hB, h1]
      calc 2 ^ f.fractionBits = 2 ^ (m.log2 + (f.fractionBits - m.log2)) := by congr 1; omega
        _ = 2 ^ m.log2 * 2 ^ (f.fractionBits - m.log2) := by rw [Nat.pow_add]
        _ ≤ m * 2 ^ (f.fractionBits - m.log2) := Nat.mul_le_mul_right _ hge
  refine ⟨j, ?_⟩
  have hcut : Toward.even.cut s (m <<< j) 0 = m * 2 ^ j := by
    have := fl_exact .even s (m * 2 ^ j) 0
    rw [Nat.pow_zero, Nat.mul_one] at this
    rw [Nat.shiftLeft_eq]
    exact this
  unfold Format.nearest
  rw [if_neg h0]
  dsimp only
  rw [← hlast, hj, hd, hcut]
  rw [← hlast] at hfit
  have hB0 : 0 < f.binade := Nat.two_pow_pos _
  obtain ⟨t, ht⟩ : ∃ t : Nat, (last - f.leastPlace).toNat = t := ⟨_, rfl⟩
  rw [ht] at hfit ⊢
  have hinf : t * f.binade + m * 2 ^ j < f.infRung := by
    show _ < (2 ^ f.exponentBits - 1) * f.binade
    calc t * f.binade + m * 2 ^ j < t * f.binade + 2 * f.binade := by omega
      _ = (t + 2) * f.binade := by rw [Nat.add_mul]
      _ ≤ _ := Nat.mul_le_mul_right _ hfit
  rw [Nat.min_eq_left (Nat.le_of_lt hinf), fl_read f s hinf]
  have hlast2 : e - (j : Int) = last := by omega
  rw [hlast2]
  have hlt2 : last = f.leastPlace + (t : Int) := by omega
  rcases Nat.lt_or_ge (m * 2 ^ j) f.binade with hk | hk
  · have ht0 : t = 0 := by
      rcases hK1 with h | h <;> omega
    subst ht0
    rw [Nat.zero_mul, Nat.zero_add, if_pos hk, hlt2]
    simp
  · have h1 : ¬ t * f.binade + m * 2 ^ j < f.binade := by
      have := Nat.zero_le (t * f.binade); omega
    obtain ⟨q, hq⟩ : ∃ q, m * 2 ^ j = f.binade + q := ⟨m * 2 ^ j - f.binade, by omega⟩
    have hq2 : q < f.binade := by omega
    rw [if_neg h1, hq]
    have h2 : (t * f.binade + (f.binade + q)) % f.binade = q := by
      rw [← Nat.add_assoc, ← Nat.succ_mul, Nat.mul_comm, Nat.mul_add_mod, Nat.mod_eq_of_lt hq2]
    have h3 : (t * f.binade + (f.binade + q)) / f.binade = t + 1 := by
      rw [← Nat.add_assoc, ← Nat.succ_mul, Nat.mul_comm, Nat.mul_add_div hB0, Nat.div_eq_of_lt hq2]
    rw [h2, h3, hlt2]
    simp
/-- the whole part -/
def whole (m : Nat) (e : Int) : Nat := (m <<< e.toNat) / 2 ^ (-e).toNat
theorem whole_shift (m j : Nat) (e : Int) : whole (m * 2 ^ j) (e - j) = whole m e := by
  unfold whole
  rw [Nat.shiftLeft_eq, Nat.shiftLeft_eq]
  by_cases h1 : e ≤ 0
  · have a1 : e.toNat = 0 := by omega
    have a2 : (e - (j : Int)).toNat = 0 := by omega
    have a3 : (-(e - (j : Int))).toNat = (-e).toNat + j := by omega
    rw [a1, a2, a3, Nat.pow_zero, Nat.mul_one, Nat.mul_one, Nat.pow_add, Nat.mul_div_mul_right _ _ (Nat.two_pow_pos _)]
  · have b1 : (-e).toNat = 0 := by omega
    rw [b1, Nat.pow_zero, Nat.div_one]
    by_cases h2 : e - (j : Int) ≤ 0
    · have a2 : (e - (j : Int)).toNat = 0 := by omega
      have a4 : j = e.toNat + (-(e - (j : Int))).toNat := by omega
      rw [a2, Nat.pow_zero, Nat.mul_one]
      generalize (-(e - (j : Int))).toNat = d at *
      rw [a4, Nat.pow_add, ← Nat.mul_assoc, Nat.mul_div_cancel _ (Nat.two_pow_pos _)]
    · have a3 : (-(e - (j : Int))).toNat = 0 := by omega
      rw [a3, Nat.pow_zero, Nat.div_one, Nat.mul_assoc, ← Nat.pow_add]
      congr 2
      omega
theorem whole_nat (n : Nat) : whole n 0 = n := by simp [whole]
theorem log2_shift {m : Nat} (h : m ≠ 0) (j : Nat) : (m * 2 ^ j).log2 = m.log2 + j := by
  have h0 : m * 2 ^ j ≠ 0 := by have := Nat.mul_pos (Nat.pos_of_ne_zero h) (Nat.two_pow_pos j); omega
  apply (Nat.log2_eq_iff h0).2
  have h1 := Nat.log2_self_le h
  have h2 := Nat.lt_log2_self (n := m)
  constructor
  · rw [Nat.pow_add]; exact Nat.mul_le_mul_right _ h1
  · rw [show m.log2 + j + 1 = (m.log2 + 1) + j by omega, Nat.pow_add]; exact Nat.mul_lt_mul_of_pos_right h2 (Nat.two_pow_pos _)
/-- a number that the format has may be told with more digits -/
theorem fl_shift (f : Format) (s : Bool) {m : Nat} {e : Int} (h0 : m ≠ 0) (hm : m < 2 ^ (f.fractionBits + 1)) (he : f.leastPlace ≤ e) (j : Nat) : f.nearest s (m * 2 ^ j) (e - j) = f.nearest s m e := by
  have hlog : m.log2 ≤ f.fractionBits := by
    have := (Nat.log2_lt h0).2 hm
    omega
  have hz : m * 2 ^ j ≠ 0 := by have := Nat.mul_pos (Nat.pos_of_ne_zero h0) (Nat.two_pow_pos j); omega
  unfold Format.nearest
  rw [if_neg h0, if_neg hz, log2_shift h0]
  dsimp only
  have hl : e - (j : Int) + ((m.log2 + j : Nat) : Int) - f.fractionBits = e + (m.log2 : Int) - f.fractionBits := by omega
  rw [hl]
  obtain ⟨last, hlast⟩ : ∃ last, last = max (e + (m.log2 : Int) - f.fractionBits) f.leastPlace := ⟨_, rfl⟩
  rw [← hlast]
  have hle : last ≤ e := by omega
  have hcut : Toward.even.cut s (m <<< (e - last).toNat) (last - e).toNat = m * 2 ^ (e - last).toNat := by
    have hd : (last - e).toNat = 0 := by omega
    have := fl_exact .even s (m * 2 ^ (e - last).toNat) 0
    rw [Nat.pow_zero, Nat.mul_one] at this
    rw [hd, Nat.shiftLeft_eq]
    exact this
  rw [hcut]
  congr 3
  by_cases h : last ≤ e - (j : Int)
  · have hd : (last - (e - (j : Int))).toNat = 0 := by omega
    have hs : (e - last).toNat = j + (e - (j : Int) - last).toNat := by omega
    have := fl_exact .even s (m * 2 ^ j * 2 ^ (e - (j : Int) - last).toNat) 0
    rw [Nat.pow_zero, Nat.mul_one] at this
    rw [hd, Nat.shiftLeft_eq, this, hs, Nat.pow_add, Nat.mul_assoc]
  · have hd : (e - (j : Int) - last).toNat = 0 := by omega
    have hs : j = (e - last).toNat + (last - (e - (j : Int))).toNat := by omega
    rw [hd, Nat.shiftLeft_zero]
    generalize (last - (e - (j : Int))).toNat = d at *
    rw [show m * 2 ^ j = m * 2 ^ (e - last).toNat * 2 ^ d by rw [hs, Nat.pow_add, Nat.mul_assoc]]
    exact fl_exact .even s _ d
theorem fl_zero (f : Format) (h : 0 < f.infRung) (s : Bool) (e : Int) : f.read (f.nearest s 0 e) = .number s 0 f.leastPlace := by
  unfold Format.nearest
  rw [if_pos rfl, fl_read f s h, if_pos (show 0 < f.binade from Nat.two_pow_pos _)]
/-- 'float32(math.Floor(float64(x)))': the float32 of the whole part -/
theorem floor_conv {m : Nat} {e : Int} (hm : m < 2 ^ 24) (he : -149 ≤ e) (he2 : e ≤ 104) (hN : whole m e < 2 ^ 24) :
    ∃ K L, double.read (double.write ((double.read (double.nearest false m e)).integral .down)) = .number false K L ∧ single.nearest false K L = single.nearest false (whole m e) 0 := by
  have d1 : double.leastPlace = -1074 := by decide
  have d2 : double.fractionBits = 52 := rfl
  have d3 : double.exponentBits = 11 := rfl
  have d4 : 0 < double.infRung := Nat.mul_pos (by decide) (Nat.two_pow_pos 52)
  have s1 : single.leastPlace = -149 := by decide
  have s2 : single.fractionBits = 23 := rfl
  have hA : (double.read (double.nearest false m e)).integral .down = .number false (whole m e) 0 := by
    by_cases h0 : m = 0
    · subst h0
      rw [fl_zero _ d4, Datum.integral, fl_cut (.inl rfl)]
      simp [whole]
    · have hl := (Nat.log2_lt h0).2 hm
      obtain ⟨j, hj⟩ := fl_write double (s := false) (e := e) h0 (by rw [d2]; exact Nat.lt_trans hm (by decide)) (by omega) (by rw [d1, d2, d3]; omega)
      rw [hj, Datum.integral, fl_cut (.inl rfl)]
      exact congrArg (fun n => Datum.number false n 0) (whole_shift m j e)
  rw [hA]
  generalize whole m e = N at *
  show ∃ K L, double.read (double.nearest false N 0) = _ ∧ _
  by_cases h0 : N = 0
  · subst h0
    exact ⟨_, _, fl_zero _ d4 _ _, by simp [Format.nearest]⟩
  · have hl := (Nat.log2_lt h0).2 hN
    obtain ⟨j, hj⟩ := fl_write double (s := false) (e := 0) h0 (by rw [d2]; exact Nat.lt_trans hN (by decide)) (by omega) (by rw [d1, d2, d3]; omega)
    exact ⟨_, _, hj, fl_shift single false h0 (by rw [s2]; exact hN) (by omega) j⟩
/-- 'float32(int64(x))' -/
theorem trunc_int (s : Bool) {m : Nat} {e : Int} : (Datum.number false m e).toInt .zero = some (whole m e : Int) := by
  rw [Datum.toInt, Datum.integral, fl_cut (.inr rfl)]
  simp [signed, whole]
/-- a zero below nothing stays so -/
theorem floor_zero (s : Bool) (e : Int) : double.read (double.write ((double.read (double.nearest s 0 e)).integral .down)) = .number s 0 (-1074) := by
  have d4 : 0 < double.infRung := Nat.mul_pos (by decide) (Nat.two_pow_pos 52)
  rw [fl_zero _ d4, Datum.integral]
  have e1 := fl_exact .down s 0 (-double.leastPlace).toNat
  rw [Nat.zero_mul] at e1
  rw [Nat.zero_shiftLeft, e1]
  show double.read (double.nearest s 0 0) = _
  rw [fl_zero _ d4]
  rfl
end Go.Proofs.Ytpnbjfhcnjdohaa
