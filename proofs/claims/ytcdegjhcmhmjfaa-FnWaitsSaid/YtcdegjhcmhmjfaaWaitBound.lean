/- Chances to wait are finite where the load is below the servers. -/
import Derived.Test.YtcdegjhcmhmjfaaFMono
import Derived.Test.YtcdegjhcmhmjfaaWaiting
namespace Go.Proofs.Ytcdegjhcmhmjfaa
open Ieee
set_option linter.unusedVariables false
set_option linter.unusedSimpArgs false

theorem inf_single : single.infRung = 2139095040 := by decide
theorem rv_one : rv single 1065353216 = 1 := by decide +kernel
theorem rv_64 : rv single 1115684864 = 64 := by decide +kernel
theorem rv_160 : rv single 1126170624 = 160 := by decide +kernel
theorem rv_below : rv single 1065353215 = 1 - 1 / 16777216 := by decide +kernel
theorem rv_tiny : rv single 864026624 = 1 / 16777216 := by decide +kernel
theorem rv_great : rv single 1266679808 = 16777216 := by decide +kernel
theorem rv_huge : rv single 1468006400 = 16777216 * 16777216 := by decide +kernel
theorem rv_96 : rv single 1119879168 = 96 := by decide +kernel
/-- the number of servers as a float -/
theorem servers_lo : ∀ k : Nat, k < 96 → 1065353216 ≤ floatOfInt .f32 ((k : Int) + 1) ∧ floatOfInt .f32 ((k : Int) + 1) ≤ 1119879168 := by decide +kernel
theorem servers_gap : ∀ k : Nat, k < 96 → rv single (floatOfInt .f32 ((k : Int) + 1) - 1) ≤ (1 - 1 / 16777216) * rv single (floatOfInt .f32 ((k : Int) + 1)) ∧ rv single (floatOfInt .f32 ((k : Int) + 1) - 1) + 1 / 16777216 ≤ rv single (floatOfInt .f32 ((k : Int) + 1)) := by decide +kernel
theorem rv_nonneg (f : Format) (R : Nat) : 0 ≤ rv f R := by obtain ⟨K, L, e, _⟩ := rv_kl f R; rw [e]; exact ev_nonneg _ _
theorem rv_pos {R : Nat} (h : 0 < R) (hi : R ≤ single.infRung) : 0 < rv single R := by
  have h0 := (rv_lt single (R := 0) (S := R) hi).2 h
  have : rv single 0 = 0 := by decide +kernel
  rwa [this] at h0
theorem div_le {a b c : Rat} (hb : 0 < b) (h : a ≤ c * b) : a / b ≤ c := by
  rw [Rat.div_def]
  refine Rat.le_of_mul_le_mul_right (c := b) ?_ hb
  have : a * b⁻¹ * b = a := by grind
  rw [this]; exact h
theorem mul_le {a b c d : Rat} (ha : 0 ≤ a) (hb : 0 ≤ b) (h1 : a ≤ c) (h2 : b ≤ d) : a * b ≤ c * d :=
  Rat.le_trans (Rat.mul_le_mul_of_nonneg_right h1 hb) (Rat.mul_le_mul_of_nonneg_left h2 (Rat.le_trans ha h1))
theorem div_nonneg {a b : Rat} (ha : 0 ≤ a) (hb : 0 < b) : 0 ≤ a / b := by
  rw [Rat.div_def]
  refine Rat.le_of_mul_le_mul_right (c := b) ?_ hb
  have : a * b⁻¹ * b = a := by grind
  rw [this]; simpa using ha

theorem r1 {a b : Rat} (h1 : a ≤ 96) (h2 : b ≤ 64) : a + b ≤ 160 := by grind
theorem r2 {a b : Rat} (h : 0 ≤ a) : b ≤ a + b := by grind
theorem r3 {a b : Rat} (h : 0 ≤ b) : a ≤ a + b := by grind
theorem r4 {a b : Rat} (h : a ≤ b) : a ≤ 1 * b := by grind
theorem r5 {b : Rat} (h : 0 ≤ b) : 1 - b ≤ 1 := by grind
theorem r6 {p : Rat} (h : p ≤ 1 - 1 / 16777216) : 1 / 16777216 ≤ 1 - p := by grind
theorem r7 {b d : Rat} (h1 : b ≤ 1) (h2 : 1 / 16777216 ≤ d) : b ≤ 16777216 * d := by grind
theorem r8 {a s t e : Rat} (h1 : a ≤ t) (h2 : t + e ≤ s) : e ≤ s - a := by grind
theorem r9 {a s : Rat} (h : 0 ≤ a) : s - a ≤ s := by grind
theorem r10 {w d : Rat} (h1 : w ≤ 16777216) (h2 : 1 / 16777216 ≤ d) : w ≤ 16777216 * 16777216 * d := by grind
theorem r11 {z r : Rat} (h : 0 ≤ r) : z - z ≤ r := by grind
theorem r12 : (1 : Rat) - 1 / 16777216 - 0 ≤ 1 := by decide +kernel

theorem fop_mul {a b z : Nat} (h : single.mul a b = some z) : fop .mul .f32 (some a) (some b) = some z := h
theorem fop_add {a b z : Nat} (h : single.add a b = some z) : fop .add .f32 (some a) (some b) = some z := h
theorem fop_sub {a b z : Nat} (h : single.sub a b = some z) : fop .sub .f32 (some a) (some b) = some z := h
theorem fop_div {a b z : Nat} (h : single.div a b = some z) : fop .quo .f32 (some a) (some b) = some z := h
theorem blockF_succ (a : Option Nat) (k : Nat) : blockF a (k + 1) = fop .quo .f32 (fop .mul .f32 a (blockF a k)) (fop .add .f32 (some (floatOfInt .f32 ((k : Int) + 1))) (fop .mul .f32 a (blockF a k))) := rfl

theorem blockF_le {a : Nat} (ha : a ≤ 1115684864) (k : Nat) (hk : k ≤ 96) : ∃ b, blockF (some a) k = some b ∧ b ≤ 1065353216 := by
  have hi := inf_single
  induction k with
  | zero => exact ⟨1065353216, rfl, Nat.le_refl _⟩
  | succ k ih =>
    obtain ⟨b, hb, hle⟩ := ih (by omega)
    have va : rv single a ≤ 64 := by rw [← rv_64]; exact (rv_le single (by omega)).2 ha
    have vb : rv single b ≤ 1 := by rw [← rv_one]; exact (rv_le single (by omega)).2 hle
    obtain ⟨x, hx, rx⟩ := mul_rn single (x := a) (y := b) (by omega) (by omega)
    have hx64 : x ≤ 1115684864 := rx.2.1 _ (by rw [rv_64]; exact Rat.le_trans (mul_le (rv_nonneg single a) (rv_nonneg single b) va vb) (by decide +kernel))
    have vx : rv single x ≤ 64 := by rw [← rv_64]; exact (rv_le single (by omega)).2 hx64
    obtain ⟨s1, s2⟩ := servers_lo k (by omega)
    have vs : rv single (floatOfInt .f32 ((k : Int) + 1)) ≤ 96 := by rw [← rv_96]; exact (rv_le single (by omega)).2 s2
    obtain ⟨t, ht, rt⟩ := add_rn single (x := floatOfInt .f32 ((k : Int) + 1)) (y := x) (by omega) (by omega)
    have ht160 : t ≤ 1126170624 := rt.2.1 _ (by rw [rv_160]; exact r1 vs vx)
    have n1 := rv_nonneg single x
    have n2 := rv_nonneg single (floatOfInt .f32 ((k : Int) + 1))
    have hts : 1065353216 ≤ t := Nat.le_trans s1 (rt.2.2 _ (by omega) (r3 n1))
    have hxt : x ≤ t := rt.2.2 _ (by omega) (r2 n2)
    have vxt := (rv_le single (R := x) (S := t) (by omega)).2 hxt
    have pt : 0 < rv single t := rv_pos (by omega) (by omega)
    obtain ⟨z, hz, rz⟩ := div_rn single (x := x) (y := t) (by omega) (by omega) (by omega)
    refine ⟨z, ?_, rz.2.1 _ ?_⟩
    · have e1 := fop_mul hx
      have e2 := fop_add ht
      have e3 := fop_div hz
      rw [blockF_succ, hb, e1, e2, e3]
    · rw [rv_one]; exact div_le pt (r4 vxt)

/-- the chance to wait is a number, at most 2^24 -/
theorem waitF_le {a m : Nat} (ha : a ≤ 1115684864) (h1 : 1 ≤ m) (h2 : m ≤ 96) (hlt : a < floatOfInt .f32 (m : Int)) : ∃ z, waitF (some a) m = some z ∧ z ≤ 1266679808 := by
  have hi := inf_single
  obtain ⟨b, hb, hle⟩ := blockF_le ha m h2
  have vb : rv single b ≤ 1 := by rw [← rv_one]; exact (rv_le single (by omega)).2 hle
  have nb := rv_nonneg single b
  obtain ⟨k, rfl⟩ : ∃ k, m = k + 1 := ⟨m - 1, by omega⟩
  rw [show ((k + 1 : Nat) : Int) = (k : Int) + 1 by omega] at hlt
  obtain ⟨s1, s2⟩ := servers_lo k (by omega)
  obtain ⟨g1, g2⟩ := servers_gap k (by omega)
  generalize hs : floatOfInt .f32 ((k : Int) + 1) = s at *
  have vas : rv single a ≤ rv single (s - 1) := (rv_le single (by omega)).2 (by omega)
  have ps : 0 < rv single s := rv_pos (by omega) (by omega)
  obtain ⟨q, hq, rq⟩ := div_rn single (x := a) (y := s) (by omega) (by omega) (by omega)
  have hq1 : q ≤ 1065353215 := rq.2.1 _ (by rw [rv_below]; exact div_le ps (Rat.le_trans vas g1))
  have vq : rv single q ≤ 1 - 1 / 16777216 := by rw [← rv_below]; exact (rv_le single (by omega)).2 hq1
  obtain ⟨c, hc, rc⟩ := sub_rn single (x := 1065353216) (y := b) (by omega) (by omega) hle
  rw [rv_one] at rc
  have hc1 : c ≤ 1065353216 := rc.2.1 _ (by rw [rv_one]; exact r5 nb)
  have vc : rv single c ≤ 1 := by rw [← rv_one]; exact (rv_le single (by omega)).2 hc1
  obtain ⟨p, hp, rp⟩ := mul_rn single (x := q) (y := c) (by omega) (by omega)
  have hp1 : p ≤ 1065353215 := rp.2.1 _ (by rw [rv_below]; exact Rat.le_trans (mul_le (rv_nonneg single q) (rv_nonneg single c) vq vc) (by decide +kernel))
  have vp : rv single p ≤ 1 - 1 / 16777216 := by rw [← rv_below]; exact (rv_le single (by omega)).2 hp1
  obtain ⟨d, hd, rd⟩ := sub_rn single (x := 1065353216) (y := p) (by omega) (by omega) (by omega)
  rw [rv_one] at rd
  have np := rv_nonneg single p
  have hd1 : 864026624 ≤ d := rd.2.2 _ (by omega) (by rw [rv_tiny]; exact r6 vp)
  have hd2 : d ≤ 1065353216 := rd.2.1 _ (by rw [rv_one]; exact r5 np)
  have vd : (1 : Rat) / 16777216 ≤ rv single d := by rw [← rv_tiny]; exact (rv_le single (by omega)).2 hd1
  have pd : 0 < rv single d := rv_pos (by omega) (by omega)
  obtain ⟨z, hz, rz⟩ := div_rn single (x := b) (y := d) (by omega) (by omega) (by omega)
  refine ⟨z, ?_, rz.2.1 _ ?_⟩
  · have e1 := fop_div hq
    have e2 := fop_sub hc
    have e3 := fop_mul hp
    have e4 := fop_sub hd
    have e5 := fop_div hz
    rw [waitF, hb, show ((k + 1 : Nat) : Int) = (k : Int) + 1 by omega, hs, e1, e2, e3, e4, e5]
  · rw [rv_great]; exact div_le pd (r7 vb vd)

/-- a finite number less itself is zero -/
theorem self_zero {z : Nat} (h : z < 2139095040) : fop .sub .f32 (some z) (some z) = some 0 := by
  have hi := inf_single
  obtain ⟨d, hd, rd⟩ := sub_rn single (x := z) (y := z) (by omega) (by omega) (Nat.le_refl _)
  have : d ≤ 0 := rd.2.1 0 (r11 (rv_nonneg single 0))
  have hz : d = 0 := by omega
  subst hz
  exact fop_sub hd
/-- the mean wait -/
def meanF (a : Option Nat) (m : Nat) : Option Nat := fop .quo .f32 (waitF a m) (fop .sub .f32 (some (floatOfInt .f32 (m : Int))) a)
theorem meanF_le {a m : Nat} (ha : a ≤ 1115684864) (h1 : 1 ≤ m) (h2 : m ≤ 96) (hlt : a < floatOfInt .f32 (m : Int)) : ∃ z, meanF (some a) m = some z ∧ z ≤ 1468006400 := by
  have hi := inf_single
  obtain ⟨w, hw, hle⟩ := waitF_le ha h1 h2 hlt
  have vw : rv single w ≤ 16777216 := by rw [← rv_great]; exact (rv_le single (by omega)).2 hle
  obtain ⟨k, rfl⟩ : ∃ k, m = k + 1 := ⟨m - 1, by omega⟩
  rw [show ((k + 1 : Nat) : Int) = (k : Int) + 1 by omega] at hlt
  obtain ⟨s1, s2⟩ := servers_lo k (by omega)
  obtain ⟨g1, g2⟩ := servers_gap k (by omega)
  generalize hs : floatOfInt .f32 ((k : Int) + 1) = s at *
  have vas : rv single a ≤ rv single (s - 1) := (rv_le single (by omega)).2 (by omega)
  obtain ⟨d, hd, rd⟩ := sub_rn single (x := s) (y := a) (by omega) (by omega) (by omega)
  have hd1 : 864026624 ≤ d := rd.2.2 _ (by omega) (by rw [rv_tiny]; exact r8 vas g2)
  have na := rv_nonneg single a
  have hd2 : d ≤ 1119879168 := Nat.le_trans (rd.2.1 s (r9 na)) s2
  have vd : (1 : Rat) / 16777216 ≤ rv single d := by rw [← rv_tiny]; exact (rv_le single (by omega)).2 hd1
  have pd : 0 < rv single d := rv_pos (by omega) (by omega)
  obtain ⟨z, hz, rz⟩ := div_rn single (x := w) (y := d) (by omega) (by omega) (by omega)
  refine ⟨z, ?_, rz.2.1 _ ?_⟩
  · have e1 := fop_sub hd
    have e2 := fop_div hz
    rw [meanF, hw, show ((k + 1 : Nat) : Int) = (k : Int) + 1 by omega, hs, e1, e2]
  · rw [rv_huge]; exact div_le pd (r10 vw vd)
/-- a load is a positive number, at most 64 -/
theorem load_rung {a : Nat} (ha : a < 4294967296) (h : loadB a = true) : a ≤ 1115684864 := by
  have hi := inf_single
  have hs : single.signWeight = 2147483648 := by decide
  simp only [loadB, Bool.and_eq_true, Bool.or_eq_true, beq_iff_eq, FloatKind.format] at h
  obtain ⟨h1, h2⟩ := h
  by_cases hneg : a < 2147483648
  · by_cases hfin : a < 2139095040
    · rw [order_rung single (by omega) (by omega)] at h2
      simp only [compare, compareOfLessAndEq] at h2
      rcases Nat.lt_or_ge 1115684864 a with hg | hg
      · rw [if_neg (by omega), if_neg (by omega)] at h2; simp at h2
      · exact hg
    · exfalso
      have hr : single.read a = .infinity false ∨ ∃ fr, single.read a = .nan false fr := by
        unfold Format.read
        have e1 : a / single.signWeight = 0 := by rw [hs]; omega
        have e2 : a % single.signWeight = a := by rw [hs]; omega
        have e3 : single.binade = 8388608 := by decide
        simp only [e1, e2, e3, hi]
        rw [if_neg (by omega), if_neg (by omega)]
        split
        · exact .inl rfl
        · exact .inr ⟨_, rfl⟩
      obtain ⟨K, L, e, _⟩ := read_rung single (r := 1115684864) (by omega)
      rcases hr with hr | ⟨fr, hr⟩
      · simp [Format.order, hr, e, Datum.order] at h2
      · simp [Format.order, hr, e, Datum.order] at h2
  · exfalso
    have hr : ∃ d, single.read a = d ∧ ((∃ m p, d = .number true m p) ∨ d = .infinity true ∨ ∃ fr, d = .nan true fr) := by
      refine ⟨_, rfl, ?_⟩
      unfold Format.read
      have e1 : (a / single.signWeight % 2 == 1) = true := by rw [hs]; simp; omega
      simp only [e1]
      split
      · exact .inl ⟨_, _, rfl⟩
      · split
        · exact .inl ⟨_, _, rfl⟩
        · split
          · exact .inr (.inl rfl)
          · exact .inr (.inr ⟨_, rfl⟩)
    obtain ⟨K, L, e, _⟩ := read_rung single (r := 0) (by omega)
    have e0 : K = 0 := by
      have : single.read 0 = .number false 0 single.leastPlace := by decide
      rw [this] at e; injection e with _ h _; exact h.symm
    subst e0
    obtain ⟨d, hd, ⟨m, p, rfl⟩ | rfl | ⟨fr, rfl⟩⟩ := hr
    · simp [Format.order, hd, e, Datum.order, signed, compare, compareOfLessAndEq, Nat.shiftLeft_eq] at h1
      have ht : (0 : Int) ≤ (m : Int) * 2 ^ (p - min p L).toNat := by
        have := Int.natCast_nonneg (m * 2 ^ (p - min p L).toNat)
        simpa using this
      generalize (m : Int) * 2 ^ (p - min p L).toNat = t at *
      split at h1 <;> try (split at h1)
      all_goals first | omega | (simp at h1) | skip
    · simp [Format.order, hd, e, Datum.order] at h1
    · simp [Format.order, hd, e, Datum.order] at h1
end Go.Proofs.Ytcdegjhcmhmjfaa
