/- The parts of a green wave, place by place: words, and the steps that both programs take. -/
import Derived.Test.YtpnbjfhcnjdohaaProg
import Derived.Test.YtpnbjfhcnjdohaaGreenT
import Derived.Test.YtpnbjfhcnjdohaaFloorI
import Derived.Test.YtpnbjfhcnjdohaaMinF
namespace Go.Proofs.Ytpnbjfhcnjdohaa
open Go.RowKit
open Ieee
set_option linter.unusedVariables false
set_option linter.unusedSimpArgs false
/-- a number that is not -0, as a word -/
def NW (e : Nat) : Prop := ∃ (s : Bool) (r : Nat), r < single.infRung ∧ (s = true → 1 ≤ r) ∧ e = single.word s r
theorem nw_order {d e : Nat} (hd : NW d) (he : NW e) : ∃ o, single.order d e = some o ∧ (o = .eq → d = e) := by
  obtain ⟨s, r, h1, h2, rfl⟩ := hd
  obtain ⟨t, q, h3, h4, rfl⟩ := he
  have hs : ∃ o, single.order (single.word s r) (single.word t q) = some o := by
    obtain ⟨K, L, e1, _⟩ := read_signed s h1
    obtain ⟨N, J, e2, _⟩ := read_signed t h3
    exact ⟨_, by rw [Format.order, e1, e2]; rfl⟩
  obtain ⟨o, ho⟩ := hs
  exact ⟨o, ho, fun h => order_same h1 h3 h2 h4 (by rw [ho, h])⟩
theorem order_swap (d e : Nat) : single.order e d = (single.order d e).map Ordering.swap := by
  unfold Format.order
  generalize single.read d = x
  generalize single.read e = y
  have hc : ∀ a b : Int, compare b a = (compare a b).swap := by
    intro a b
    simp only [compare, compareOfLessAndEq]
    by_cases h1 : a < b
    · rw [if_pos h1, if_neg (by omega), if_neg (by omega)]; rfl
    · by_cases h2 : a = b
      · rw [if_neg (by omega), if_pos h2.symm, if_neg h1, if_pos h2]; rfl
      · rw [if_pos (by omega), if_neg h1, if_neg h2]; rfl
  cases x with
  | nan s f => cases y <;> rfl
  | infinity s =>
    cases y with
    | nan t f => rfl
    | infinity t => cases s <;> cases t <;> rfl
    | number t n j => cases s <;> rfl
  | number s m i =>
    cases y with
    | nan t f => rfl
    | infinity t => cases t <;> rfl
    | number t n j =>
      simp only [Datum.order, Option.map_some]
      rw [Int.min_comm j i, hc]
theorem nw_lt {d e : Nat} (hd : NW d) (he : NW e) : (single.order e d == some .lt) = (single.order d e == some .gt) := by
  rw [order_swap d e]
  obtain ⟨o, h, _⟩ := nw_order hd he
  rw [h]
  cases o <;> rfl
theorem nw_gt {d e : Nat} (hd : NW d) (he : NW e) : (single.order e d == some .gt) = (single.order d e == some .lt) := by
  rw [order_swap d e]
  obtain ⟨o, h, _⟩ := nw_order hd he
  rw [h]
  cases o <;> rfl
/-- a difference of two that are not negative -/
theorem sub_nw {m x : Nat} (hm : m < single.infRung) (hx : x < single.infRung) : ∃ e, single.sub m x = some e ∧ NW e := by
  obtain ⟨M, i, h1, v1⟩ := read_rung single hm
  obtain ⟨X, j, h2, v2⟩ := read_rung single hx
  obtain ⟨_, b1, _⟩ := single_num h1
  obtain ⟨_, b2, _⟩ := single_num h2
  unfold Format.sub
  rw [h1, h2]
  refine ⟨_, rfl, ?_⟩
  show NW (single.nearest _ _ _)
  rw [ev_at M (Int.min_le_left i j)] at v1
  rw [ev_at X (Int.min_le_right i j)] at v2
  have e1 : signed false M (i - min i j).toNat = ((M * 2 ^ (i - min i j).toNat : Nat) : Int) := by simp [signed, Nat.shiftLeft_eq]
  have e2 : signed (!false) X (j - min i j).toNat = -((X * 2 ^ (j - min i j).toNat : Nat) : Int) := by simp [signed, Nat.shiftLeft_eq]
  rw [e1, e2]
  generalize M * 2 ^ (i - min i j).toNat = a at *
  generalize X * 2 ^ (j - min i j).toNat = b at *
  have hb : (-149 : Int) ≤ min i j := by omega
  generalize min i j = base at *
  have hle : rnd single ((a : Int) + -(b : Int)).natAbs base ≤ max m x := by
    refine rnd_le single ?_
    by_cases hab : b ≤ a
    · have k1 : ev ((a : Int) + -(b : Int)).natAbs base ≤ rv single m := by rw [← v1, ev_le]; omega
      have k2 : rv single m ≤ rv single (max m x) := (rv_le single (Nat.le_of_lt hm)).2 (Nat.le_max_left _ _)
      grind
    · have k1 : ev ((a : Int) + -(b : Int)).natAbs base ≤ rv single x := by rw [← v2, ev_le]; omega
      have k2 : rv single x ≤ rv single (max m x) := (rv_le single (Nat.le_of_lt hx)).2 (Nat.le_max_right _ _)
      grind
  generalize hT : (a : Int) + -(b : Int) = total at *
  by_cases h0 : total = 0
  · rw [h0, if_pos rfl]
    exact ⟨false, 0, by decide, by simp, by simp [Format.nearest]⟩
  · rw [if_neg h0, nearest_eq]
    have h3 : 1 ≤ rnd single total.natAbs base := le_rnd single (by
      have e1 : rv single 1 = ev 1 (-149) := by rw [rv, if_pos (by decide)]; rfl
      rw [e1]
      exact ev_le_of hb (by omega)) (by decide)
    exact ⟨_, _, by omega, fun _ => h3, rfl⟩

/-- the whole part of a number, as a word -/
def flW (b : Nat) : Nat := match single.read b with | .number _ m e => single.nearest false (whole m e) 0 | _ => 0
def xW (q : Nat) : Nat := (single.sub q (flW q)).getD 0
def mW (n : Nat) (q : Nat) : Nat := (single.div (flW ((single.add ((single.mul (xW q) (single.nearest false n 0)).getD 0) 1056964608).getD 0)) (single.nearest false n 0)).getD 0
def eW (n : Nat) (q : Nat) : Nat := (single.sub (mW n q) (xW q)).getD 0
/-- a quotient that is taken: not negative, below a million -/
def QOk (q : Nat) : Prop := q < 1232348160 ∨ q = 2147483648

/-- what the reference does with a quotient -/
structure RefSteps (n q : Nat) : Prop where
  go : ∃ (I J : Int) (y z : Nat), floatToIntVal .f32 q .i64 = some I ∧ floatBits .sub .f32 q (floatOfInt .f32 I) = some (xW q) ∧ floatBits .mul .f32 (xW q) (floatOfInt .f32 (n : Int)) = some y ∧ floatBits .add .f32 y 1056964608 = some z ∧
    floatToIntVal .f32 z .i64 = some J ∧ floatBits .quo .f32 (floatOfInt .f32 J) (floatOfInt .f32 (n : Int)) = some (mW n q) ∧ floatBits .sub .f32 (mW n q) (xW q) = some (eW n q)
/-- what the program does with a quotient -/
structure ProgSteps (n q : Nat) : Prop where
  go : ∃ (f x y z g : Nat), (∀ w, Calls Try.prog 20 #[.float .f32 q] w fun r w' => r = .returned (.float .f32 f) ∧ w = w') ∧ floatBits .sub .f32 q f = some x ∧ floatBits .mul .f32 x (floatOfInt .f32 (n : Int)) = some y ∧ floatBits .add .f32 y 1056964608 = some z ∧
    (∀ w, Calls Try.prog 20 #[.float .f32 z] w fun r w' => r = .returned (.float .f32 g) ∧ w = w') ∧ floatBits .quo .f32 g (floatOfInt .f32 (n : Int)) = some (mW n q) ∧ floatBits .sub .f32 (mW n q) x = some (eW n q)

theorem flW_of {b : Nat} {s : Bool} {K : Nat} {L : Int} (h : single.read b = .number s K L) : flW b = single.nearest false (whole K L) 0 := by rw [flW, h]
theorem steps_all {n q : Nat} (h1 : 1 ≤ n) (h2 : n ≤ 100) (hq : QOk q) : RefSteps n q ∧ ProgSteps n q ∧ NW (eW n q) ∧ mW n q < single.infRung := by
  rcases hq with hq | rfl
  · obtain ⟨K, L, x, r1, r2, r3, r4⟩ := left_of hq
    obtain ⟨y, z, K2, L2, m, s1, s2, s3, s4, s5, s6⟩ := steps_of r4 h1 h2
    obtain ⟨e, t1, t2⟩ := sub_nw s6 (show x < single.infRung from Nat.lt_of_le_of_lt r4 (by decide))
    have ex : xW q = x := by rw [xW, flW_of r1, r3]; rfl
    have em : mW n q = m := by rw [mW, ex, s1]; simp only [Option.getD_some]; rw [s2]; simp only [Option.getD_some]; rw [flW_of s3, s5]; rfl
    have ee : eW n q = e := by rw [eW, em, ex, t1]; rfl
    refine ⟨⟨_, _, y, z, int_of r1 r2, ?_, ?_, s2, int_of s3 s4, ?_, ?_⟩, ⟨_, x, y, z, _, floorOf_any r1 r2, r3, ?_, s2, floorOf_any s3 s4, ?_, ?_⟩, by rw [ee]; exact t2, by rw [em]; exact s6⟩
    · rw [floatOfInt_nat, ex]; exact r3
    · rw [floatOfInt_nat, ex]; exact s1
    · rw [floatOfInt_nat, floatOfInt_nat, em]; exact s5
    · rw [em, ex, ee]; exact t1
    · rw [floatOfInt_nat]; exact s1
    · rw [floatOfInt_nat, em]; exact s5
    · rw [em, ee]; exact t1
  · obtain ⟨n1, n2, n3⟩ := neg_steps n (by omega) h1
    obtain ⟨f1, f2, f3, f4, f5, f6, f7, f8, f9⟩ := neg_facts
    have hr : single.read 2147483648 = .number true 0 (-149) := by decide
    have hw : flW 2147483648 = 0 := by rw [flW_of hr]; decide
    have ex : xW 2147483648 = 2147483648 := by rw [xW, hw, f2]; rfl
    have em : mW n 2147483648 = 0 := by rw [mW, ex, n1]; simp only [Option.getD_some]; rw [f3]; simp only [Option.getD_some]; rw [flW_of f7, f8, f9, n3]; rfl
    have ee : eW n 2147483648 = 0 := by rw [eW, em, ex, f5]; rfl
    have h0 : floatOfInt .f32 0 = 0 := by decide
    refine ⟨⟨0, 0, 2147483648, 1056964608, int_neg, ?_, ?_, f3, ?_, ?_, ?_⟩, ⟨_, 0, 0, 1056964608, _, floorOf_neg, f1, ?_, f4, floorOf_any f7 (by rw [f8]; decide), ?_, ?_⟩, by rw [ee]; exact ⟨false, 0, by decide, by simp, rfl⟩, by rw [em]; decide⟩
    · rw [h0, ex]; exact f2
    · rw [floatOfInt_nat, ex]; exact n1
    · rw [int_of f7 (by rw [f8]; decide), f8]; rfl
    · rw [h0, floatOfInt_nat, em]; exact n3
    · rw [em, ex, ee]; exact f5
    · rw [floatOfInt_nat]; exact n2
    · rw [floatOfInt_nat, f8, f9, em]; exact n3
    · rw [em, ee]; exact f6
theorem write_num (f : Format) (t : Bool) (d : Nat) (j : Int) : f.write (.number t d j) = f.nearest t d j := rfl
theorem below_inf {q : Nat} (h1 : q ≤ single.infRung) (hlt : single.order q 1232348160 = some .lt) : q < 1232348160 := by
  have kinf : single.order single.infRung 1232348160 = some .gt := by decide +kernel
  have hc : 1232348160 < single.infRung := by decide
  rcases Nat.lt_or_ge q single.infRung with h2 | h2
  · rw [order_rung single h2 hc] at hlt
    simp only [Option.some.injEq, compare, compareOfLessAndEq] at hlt
    split at hlt
    · assumption
    · split at hlt <;> cases hlt
  · have e : q = single.infRung := Nat.le_antisymm h1 h2
    rw [e, kinf] at hlt
    cases hlt
theorem near_zero (f : Format) (t : Bool) (j : Int) : f.nearest t 0 j = f.word t 0 := by simp [Format.nearest]
theorem near_ok {q : Nat} {t : Bool} {d : Nat} {j : Int} (hq : q = single.nearest t d j) (ht : t = true → d = 0) (hlt : single.order q 1232348160 = some .lt) : QOk q := by
  cases t with
  | true =>
    right
    rw [hq, ht rfl, near_zero]
    decide
  | false =>
    left
    refine below_inf ?_ hlt
    rw [hq, nearest_eq, word_false]
    exact rnd_inf single d j
theorem inf_ok {q : Nat} (hq : q = single.write (.infinity false)) (hlt : single.order q 1232348160 = some .lt) : QOk q := by
  have kinf : single.order (single.write (.infinity false)) 1232348160 = some .gt := by decide +kernel
  rw [hq, kinf] at hlt
  cases hlt
theorem read_le {L : Nat} (hL : L ≤ single.infRung) : (∃ n j, single.read L = .number false n j) ∨ single.read L = .infinity false := by
  rcases Nat.lt_or_ge L single.infRung with h1 | h1
  · obtain ⟨n, j, e, _⟩ := read_rung single h1
    exact .inl ⟨n, j, e⟩
  · have e : L = single.infRung := Nat.le_antisymm hL h1
    have k : single.read single.infRung = .infinity false := by decide +kernel
    rw [e]
    exact .inr k
theorem quo_parts {D : Nat} {s : Bool} {m n : Nat} {i j : Int} (hs : s = true → m = 0) {o : Datum} (h : Datum.quotient D (.number s m i) (.number false n j) = some o) : o = .infinity false ∨ ∃ t d k, o = .number t d k ∧ (t = true → d = 0) := by
  simp only [Datum.quotient, Bool.xor_false] at h
  by_cases h0 : n = 0
  · rw [if_pos h0] at h
    by_cases hm : m = 0
    · rw [if_pos hm] at h; cases h
    · rw [if_neg hm] at h
      cases s with
      | true => exact absurd (hs rfl) hm
      | false => exact .inl (Option.some.inj h).symm
  · rw [if_neg h0] at h
    refine .inr ⟨_, _, _, (Option.some.inj h).symm, fun ht => ?_⟩
    rw [hs ht]
    simp
/-- a quotient of a number that is not negative (-0 among them) by a word that is not negative -/
theorem quo_ok {p L q : Nat} {s : Bool} {m : Nat} {i : Int} (hp : single.read p = .number s m i) (hs : s = true → m = 0) (hL : L ≤ single.infRung) (h : single.div p L = some q) (hlt : single.order q 1232348160 = some .lt) : QOk q := by
  unfold Format.div at h
  rw [hp] at h
  obtain ⟨o, ho, hq⟩ := Option.map_eq_some_iff.1 h
  rcases read_le hL with ⟨n, j, e⟩ | e
  · rw [e] at ho
    rcases quo_parts hs ho with rfl | ⟨t, d, k, rfl, ht⟩
    · exact inf_ok hq.symm hlt
    · rw [write_num] at hq
      exact near_ok hq.symm ht hlt
  · rw [e] at ho
    simp only [Datum.quotient, Bool.xor_false, Option.some.injEq] at ho
    subst ho
    rw [write_num] at hq
    exact near_ok hq.symm (fun _ => rfl) hlt
theorem mul_le {a b : Nat} (ha : a < single.infRung) (hb : b < single.infRung) : ∃ L, single.mul a b = some L ∧ L ≤ single.infRung := by
  obtain ⟨z, h1, h2, _⟩ := mul_rn single ha hb
  exact ⟨z, h1, h2⟩
theorem neg_order {w K : Nat} {L : Int} (e1 : single.read w = .number true K L) : single.order w 0 = some (if K = 0 then .eq else .lt) := by
  have e0 : single.read 0 = .number false 0 (-149) := by decide
  have h : single.order w 0 = some (compare (-((K <<< (L - min L (-149)).toNat : Nat) : Int)) ((0 <<< ((-149) - min L (-149)).toNat : Nat) : Int)) := by
    rw [Format.order, e1, e0]
    rfl
  rw [h, Nat.zero_shiftLeft, Nat.shiftLeft_eq]
  have h2 := Nat.two_pow_pos (L - min L (-149)).toNat
  simp only [compare, compareOfLessAndEq]
  by_cases h0 : K = 0
  · subst h0
    simp
  · have h3 := Nat.mul_pos (Nat.pos_of_ne_zero h0) h2
    rw [if_pos (by omega), if_neg h0]
theorem not_inf {s : Bool} {r : Nat} (hr : r ≤ single.infRung) (hi : (single.read (single.word s r)).isInfinity = false) : r < single.infRung := by
  rcases Nat.lt_or_ge r single.infRung with h1 | h1
  · exact h1
  · have e : r = single.infRung := by omega
    rw [e] at hi
    have k : ∀ t : Bool, (single.read (single.word t single.infRung)).isInfinity = true := by decide +kernel
    rw [k] at hi
    cases hi
/-- a word above 0, or at least 0, and finite -/
theorem word_pos {a : Nat} (hw : a < 4294967296) (hn : (single.read a).isNaN = false) (hi : (single.read a).isInfinity = false) (h : single.order a 0 = some .gt) : a < single.infRung := by
  obtain ⟨s, r, hr, rfl⟩ := word_parts hw hn
  have hr2 := not_inf hr hi
  cases s with
  | false => exact hr2
  | true =>
    obtain ⟨K, L, e1, _⟩ := read_signed true hr2
    rw [neg_order e1] at h
    split at h <;> cases h
theorem word_ge {a : Nat} (hw : a < 4294967296) (hn : (single.read a).isNaN = false) (hi : (single.read a).isInfinity = false) (h : single.order a 0 = some .gt ∨ single.order a 0 = some .eq) : ∃ s m i, single.read a = .number s m i ∧ (s = true → m = 0) := by
  obtain ⟨s, r, hr, rfl⟩ := word_parts hw hn
  have hr2 := not_inf hr hi
  obtain ⟨K, L, e1, _⟩ := read_signed s hr2
  refine ⟨s, K, L, e1, fun hs => ?_⟩
  subst hs
  rw [neg_order e1] at h
  by_cases h0 : K = 0
  · exact h0
  · rw [if_neg h0] at h
    rcases h with h | h <;> cases h
end Go.Proofs.Ytpnbjfhcnjdohaa
