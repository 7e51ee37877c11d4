/- Sets as bits of an int64. No program stands here. -/
import Derived.Laws.Entries
import Derived.IntWalk
namespace Go.Proofs.Ytkaopdpdfbkchaa
set_option linter.unusedVariables false
set_option linter.unusedSimpArgs false

/-- what is in a, but not in b -/
def mns (a b : Nat) : Nat := a ^^^ (a &&& b)
theorem mns_bit (a b i : Nat) : (mns a b).testBit i = (a.testBit i && !b.testBit i) := by
  unfold mns
  rw [Nat.testBit_xor, Nat.testBit_and]
  cases a.testBit i <;> cases b.testBit i <;> rfl
theorem bit_high {a i : Nat} (h : a < 2 ^ 63) (hi : 63 ≤ i) : a.testBit i = false :=
  Nat.testBit_lt_two_pow (Nat.lt_of_lt_of_le h (Nat.pow_le_pow_right (by omega) hi))
theorem mns_lt {a b m : Nat} (h : a < 2 ^ m) : mns a b < 2 ^ m := by
  apply Nat.lt_pow_two_of_testBit
  intro i hi
  rw [mns_bit, Nat.testBit_lt_two_pow (Nat.lt_of_lt_of_le h (Nat.pow_le_pow_right (by omega) hi))]
  rfl
theorem wrap_nat {n : Nat} (h : n < 2 ^ 63) : IntKind.i64.wrap (n : Int) = (n : Int) := by
  have : (2 : Nat) ^ 63 = 9223372036854775808 := by decide
  exact IntWalk.i64_in _ (by omega)
theorem i64_andNot (a b : Nat) (ha : a < 2 ^ 63) (hb : b < 2 ^ 63) : bits .andNot .i64 (a : Int) (b : Int) = ((mns a b : Nat) : Int) := by
  have e : (BitVec.ofInt 64 (a : Int) &&& ~~~BitVec.ofInt 64 (b : Int)).toNat = mns a b := by
    apply Nat.eq_of_testBit_eq
    intro i
    rw [BitVec.testBit_toNat, BitVec.getLsbD_and, BitVec.getLsbD_not, BitVec.ofInt_natCast, BitVec.ofInt_natCast, BitVec.getLsbD_ofNat, BitVec.getLsbD_ofNat, mns_bit]
    by_cases hi : i < 64
    · simp [hi]
    · have := bit_high ha (show 63 ≤ i by omega)
      simp [hi, this]
  show IntKind.i64.wrap ((BitVec.ofInt 64 (a : Int) &&& ~~~BitVec.ofInt 64 (b : Int)).toNat : Int) = _
  rw [e]
  exact wrap_nat (mns_lt ha)
theorem i64_or (a b : Nat) (ha : a < 2 ^ 62) (hb : b < 2 ^ 62) : bits .or .i64 (a : Int) (b : Int) = ((a ||| b : Nat) : Int) := by
  have h63 : (2 : Nat) ^ 62 < 2 ^ 63 := by decide
  have e : (BitVec.ofInt 64 (a : Int) ||| BitVec.ofInt 64 (b : Int)).toNat = a ||| b := by
    apply Nat.eq_of_testBit_eq
    intro i
    rw [BitVec.testBit_toNat, BitVec.getLsbD_or, BitVec.ofInt_natCast, BitVec.ofInt_natCast, BitVec.getLsbD_ofNat, BitVec.getLsbD_ofNat, Nat.testBit_or]
    by_cases hi : i < 64
    · simp [hi]
    · have h1 := bit_high (Nat.lt_trans ha h63) (show 63 ≤ i by omega)
      have h2 := bit_high (Nat.lt_trans hb h63) (show 63 ≤ i by omega)
      simp [hi, h1, h2]
  show IntKind.i64.wrap ((BitVec.ofInt 64 (a : Int) ||| BitVec.ofInt 64 (b : Int)).toNat : Int) = _
  rw [e]
  exact wrap_nat (Nat.lt_trans (Nat.or_lt_two_pow ha hb) h63)
theorem i64_and (a b : Nat) (ha : a < 2 ^ 63) (hb : b < 2 ^ 63) : bits .and .i64 (a : Int) (b : Int) = ((a &&& b : Nat) : Int) := by
  have e : (BitVec.ofInt 64 (a : Int) &&& BitVec.ofInt 64 (b : Int)).toNat = a &&& b := by
    apply Nat.eq_of_testBit_eq
    intro i
    rw [BitVec.testBit_toNat, BitVec.getLsbD_and, BitVec.ofInt_natCast, BitVec.ofInt_natCast, BitVec.getLsbD_ofNat, BitVec.getLsbD_ofNat, Nat.testBit_and]
    by_cases hi : i < 64
    · simp [hi]
    · have := bit_high ha (show 63 ≤ i by omega)
      simp [hi, this]
  show IntKind.i64.wrap ((BitVec.ofInt 64 (a : Int) &&& BitVec.ofInt 64 (b : Int)).toNat : Int) = _
  rw [e]
  exact wrap_nat (Nat.lt_of_le_of_lt Nat.and_le_left ha)
/-- x >> i & 1 -/
theorem i64_bit (a i : Nat) (ha : a < 2 ^ 63) (hi : i < 64) : bits .and .i64 ((a : Int).fdiv (2 ^ i)) 1 = if a.testBit i then 1 else 0 := by
  have e : (a : Int).fdiv (2 ^ i) = ((a / 2 ^ i : Nat) : Int) := by
    rw [Int.fdiv_eq_ediv_of_nonneg _ (Int.le_of_lt (Int.pow_pos (by decide)))]
    simp
  rw [e, show (1 : Int) = ((1 : Nat) : Int) from rfl, i64_and _ _ (Nat.lt_of_le_of_lt (Nat.div_le_self _ _) ha) (by decide)]
  rw [Nat.testBit_eq_decide_div_mod_eq, Nat.and_one_is_mod]
  generalize a / 2 ^ i = q
  by_cases h : q % 2 = 1
  · simp [h]
  · have : q % 2 = 0 := by omega
    simp [this]
theorem i64_bit' (a i : Nat) (ha : a < 2 ^ 63) (hi : i < 64) : bits .and .i64 ((a : Int) / 2 ^ i) 1 = if a.testBit i then 1 else 0 := by
  rw [← i64_bit a i ha hi, Int.fdiv_eq_ediv_of_nonneg _ (Int.le_of_lt (Int.pow_pos (by decide)))]
/-- the whole of m -/
theorem full_bit (m i : Nat) : (2 ^ m - 1).testBit i = decide (i < m) := Nat.testBit_two_pow_sub_one m i
theorem one_bit (k i : Nat) : (2 ^ k).testBit i = decide (k = i) := Nat.testBit_two_pow
theorem full_mns {m s : Nat} (hs : s < 2 ^ m) (i : Nat) : (mns (2 ^ m - 1) s).testBit i = (decide (i < m) && !s.testBit i) := by rw [mns_bit, full_bit]
theorem eq_zero_iff {a : Nat} : a = 0 ↔ ∀ i, a.testBit i = false := by
  constructor
  · rintro rfl i; exact Nat.zero_testBit i
  · intro h; apply Nat.eq_of_testBit_eq; intro i; rw [h, Nat.zero_testBit]
end Go.Proofs.Ytkaopdpdfbkchaa
