/- Points of the unit circle, in the model's words of floats. No program stands here. -/
import Derived.Test.YtdhmnajkmeclnaaSineT
import Derived.Laws.FloatArith
namespace Go.Proofs.Ytdhmnajkmeclnaa
set_option linter.unusedVariables false
set_option linter.unusedSimpArgs false
open Ieee
/-- a 64-bit number narrowed -/
def narW (b : Nat) : Nat := single.write (double.read b)
theorem nar_ok {v : Bool} {z : Nat} (hz : z ≤ 4611686018427387904) : floatToFloatBits .f64 (double.word v z) .f32 = some (narW (double.word v z)) ∧ ∃ t r, narW (double.word v z) = single.word t r ∧ r ≤ 1073741824 := by
  obtain ⟨K, L, h1, h2⟩ := read_sign double v (show z < double.infRung by rw [dinf]; omega)
  have e : narW (double.word v z) = single.word v (rnd single K L) := by
    rw [narW, h1]
    exact nearest_eq single v K L
  have hr : rnd single K L ≤ 1073741824 := rnd_le single (by
    rw [h2, rvs_2, ← rvd_2]
    exact (rv_le double (by rw [dinf]; omega)).2 hz)
  refine ⟨?_, v, rnd single K L, e, hr⟩
  have hi : (single.read (single.word v (rnd single K L))).isInfinity = false := read_word_num single v _ (by rw [sinf]; omega)
  have hw : single.write (.number v K L) = single.word v (rnd single K L) := nearest_eq single v K L
  simp only [floatToFloatBits, FloatKind.decode, FloatKind.encode, FloatKind.format, h1, hw, hi, e]
  simp
def negW (s : Nat) : Nat := (double.sub 0 s).getD 0
theorem neg_ok {s : Nat} (hs : s ≤ 4611686018427387904) : double.sub 0 s = some (negW s) ∧ ∃ v z, negW s = double.word v z ∧ z ≤ 4611686018427387904 := by
  obtain ⟨v, z, h1, h2⟩ := sub_words double (s := false) (t := false) (r := 0) (q := s) (R := 4611686018427387904) (by rw [dinf]; omega) (by rw [dinf]; omega) (by
    rw [rvd_0]
    have := (rv_le double (S := 4611686018427387904) (show s ≤ double.infRung by rw [dinf]; omega)).2 hs
    grind)
  rw [word_false, word_false] at h1
  have e : negW s = double.word v z := by rw [negW, h1]; rfl
  exact ⟨by rw [h1, e], v, z, e, h2⟩
/-- cosine and sine in their quarter -/
def sideW (F : Nat) : Nat := (double.sub 4598175219545276416 F).getD 0
def cosQ (F q : Nat) : Nat := if q = 1 then negW (sineW F) else if q = 2 then negW (sineW (sideW F)) else if q = 3 then sineW F else sineW (sideW F)
def sinQ (F q : Nat) : Nat := if q = 1 then sineW (sideW F) else if q = 2 then negW (sineW F) else if q = 3 then negW (sineW (sideW F)) else sineW F
theorem side_ok {F : Nat} (hF : F ≤ 4598175219545276416) : double.sub 4598175219545276416 F = some (sideW F) ∧ sideW F ≤ 4598175219545276416 := by
  obtain ⟨z, hz, _, z2, _⟩ := sub_rn double (show 4598175219545276416 < double.infRung by rw [dinf]; omega) (show F < double.infRung by rw [dinf]; omega) hF
  have zb : z ≤ 4598175219545276416 := z2 _ (by
    have := rv_nonneg double F
    grind)
  have e : sideW F = z := by rw [sideW, hz]; rfl
  exact ⟨by rw [hz, e], by rw [e]; exact zb⟩
/-- what is narrowed is small -/
theorem quarter_ok {F : Nat} (hF : F ≤ 4598175219545276416) (q : Nat) : (∃ v z, cosQ F q = double.word v z ∧ z ≤ 4611686018427387904) ∧ (∃ v z, sinQ F q = double.word v z ∧ z ≤ 4611686018427387904) := by
  obtain ⟨_, hd⟩ := side_ok hF
  obtain ⟨_, _, _, _, _, c1⟩ := sine_all hd
  obtain ⟨_, _, _, _, _, s1⟩ := sine_all hF
  have pc : ∃ v z, sineW (sideW F) = double.word v z ∧ z ≤ 4611686018427387904 := ⟨false, _, (word_false double _).symm, c1⟩
  have ps : ∃ v z, sineW F = double.word v z ∧ z ≤ 4611686018427387904 := ⟨false, _, (word_false double _).symm, s1⟩
  refine ⟨?_, ?_⟩
  · unfold cosQ
    split
    · exact (neg_ok s1).2
    · split
      · exact (neg_ok c1).2
      · split
        · exact ps
        · exact pc
  · unfold sinQ
    split
    · exact pc
    · split
      · exact (neg_ok s1).2
      · split
        · exact (neg_ok c1).2
        · exact ps
/-- the turns t of p, their quarter and what is left of it -/
structure Turns (t p f0 F q : Nat) : Prop where
  quo : double.div (double.nearest false t 0) (double.nearest false p 0) = some f0
  low : f0 < 4607182418800017408
  red : redW 4 f0 0 = some (F, q)
theorem red_low : ∀ {k f q F Q : Nat}, redW k f q = some (F, Q) → F < 4598175219545276416 := by
  intro k
  induction k with
  | zero => intro f q F Q h; cases h
  | succ k ih =>
    intro f q F Q h
    rw [redW] at h
    by_cases hf : 4598175219545276416 ≤ f
    · rw [if_pos hf] at h
      cases hd : double.sub f 4598175219545276416 with
      | none => rw [hd] at h; cases h
      | some g => rw [hd] at h; exact ih h
    · rw [if_neg hf] at h
      injection h with h
      injection h with h1 h2
      omega
theorem turns_at {t p : Nat} (hp : p ≤ 60) (ht : t < p) : ∃ f0 F q, Turns t p f0 F q := by
  have h := turns_ok p (by omega) t ht
  simp only [turnsB, Bool.and_eq_true, beq_iff_eq, decide_eq_true_eq] at h
  obtain ⟨h1, h2, h3⟩ := h
  obtain ⟨⟨F, q⟩, hr⟩ := Option.isSome_iff_exists.1 h3
  exact ⟨_, F, q, h1, h2, hr⟩
/-- the point: its parts, as words of 32 bits -/
def rePh (t p : Nat) : Nat := match redW 4 (quoT t p) 0 with | some (F, q) => narW (cosQ F q) | none => 0
def imPh (t p : Nat) : Nat := match redW 4 (quoT t p) 0 with | some (F, q) => narW (sinQ F q) | none => 0
theorem ph_of {t p f0 F q : Nat} (h : Turns t p f0 F q) : rePh t p = narW (cosQ F q) ∧ imPh t p = narW (sinQ F q) := by
  have e : quoT t p = f0 := by rw [quoT, h.quo]; rfl
  rw [rePh, imPh, e, h.red]
  exact ⟨rfl, rfl⟩
theorem ph_small {t p : Nat} (hp : p ≤ 60) (ht : t < p) : (∃ v r, rePh t p = single.word v r ∧ r ≤ 1073741824) ∧ (∃ v r, imPh t p = single.word v r ∧ r ≤ 1073741824) := by
  obtain ⟨f0, F, q, h⟩ := turns_at hp ht
  obtain ⟨e1, e2⟩ := ph_of h
  obtain ⟨⟨v1, z1, c1, c2⟩, v2, z2, s1, s2⟩ := quarter_ok (Nat.le_of_lt (red_low h.red)) q
  rw [e1, e2, c1, s1]
  exact ⟨(nar_ok c2).2, (nar_ok s2).2⟩
end Go.Proofs.Ytdhmnajkmeclnaa
