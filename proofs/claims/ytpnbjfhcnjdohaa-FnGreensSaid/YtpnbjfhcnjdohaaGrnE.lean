/- Bands of green waves: the band against the numbers of the law. No program stands here. -/
import Derived.Test.YtpnbjfhcnjdohaaGrnC
namespace Go.Proofs.Ytpnbjfhcnjdohaa
open Ieee
set_option linter.unusedVariables false
set_option maxRecDepth 100000
attribute [local irreducible] eW quoW placeW lowB capD cN XB
theorem ra {a b X D : Rat} (h1 : a ≤ X) (h2 : -X ≤ b) (h3 : X + X ≤ D) : a - b ≤ D := by grind
theorem rb {g z : Rat} (h : 0 ≤ z) : g - z ≤ g := by grind
theorem rc {l c z h : Rat} (h1 : l ≤ h - c) (h2 : z ≤ c) : l ≤ h - z := by grind
theorem rd' {l c z h : Rat} (h1 : l ≤ h - c) (h2 : z ≤ c) (h3 : 0 ≤ l) (h4 : h < z) : False := by grind
theorem re' {x c k K : Rat} (h1 : K ≤ x) (h2 : x ≤ 0) (h3 : 0 ≤ k) (h4 : 0 < c) (h5 : x = -c) (h6 : k ≤ x) : False := by grind
theorem fault_of {n e : Nat} (h : okF n e = true) : IsN e ∧ -(ev (XB n) (-40)) ≤ svW e ∧ svW e ≤ ev (XB n) (-40) := by
  rw [okF] at h
  split at h
  · rename_i s m i hr
    simp only [Bool.and_eq_true, Bool.or_eq_true, decide_eq_true_eq, Bool.not_eq_true'] at h
    obtain ⟨h1, h2⟩ := h
    have hev : ev m i ≤ ev (XB n) (-40) := by
      rcases h1 with ⟨_, h1⟩ | ⟨h1, _⟩
      · rw [ev_at m h1, ev_at (XB n) (show (-60 : Int) ≤ -40 by omega), ev_le]
        rw [show (i - -60).toNat = (i + 60).toNat by congr 1, show ((-40 : Int) - -60).toNat = 20 by decide]
        exact h2
      · subst h1; rw [ev_zero]; exact ev_nonneg _ _
    have h0 := ev_nonneg m i
    refine ⟨⟨s, m, i, hr, fun hs => ?_⟩, ?_⟩
    · rcases h1 with ⟨h1, _⟩ | ⟨_, h1⟩
      · exact h1
      · rw [hs] at h1; cases h1
    · rw [svW_of hr, sv]
      split <;> constructor <;> grind
  · cases h
theorem fault_in {n p : Nat} (n1 : 1 ≤ n) (n2 : n ≤ 40) (hp : p < 64) : IsN (eW n (quoW 1094713344 (placeW p))) ∧ -(ev (XB n) (-40)) ≤ svW (eW n (quoW 1094713344 (placeW p))) ∧ svW (eW n (quoW 1094713344 (placeW p))) ≤ ev (XB n) (-40) := by
  have h := List.all_eq_true.1 (List.all_eq_true.1 allE_t (n - 1) (List.mem_range.2 (by omega))) p (List.mem_range.2 hp)
  rw [Nat.sub_add_cancel n1, okE] at h
  exact fault_of h
theorem place_okW {p : Nat} (hp : p < 64) : okQ 1094713344 (placeW p) = true ∧ finB (nrm .f32 (placeW p)) = true ∧ geB (placeW p) = true ∧ placeW p < 4294967296 := by
  have h := List.all_eq_true.1 allP_t p (List.mem_range.2 hp)
  simpa [okPl, Bool.and_eq_true, and_assoc] using h
theorem band_ok {n : Nat} (n1 : 1 ≤ n) (n2 : n ≤ 40) {xs : List Nat} (h1 : 1 ≤ xs.length) (hp : ∀ k, k < xs.length → ∃ p, p < 64 ∧ xs.getD k 0 = placeW p) :
    bandW 1056964608 (lowW (faultW 1094713344 n xs) xs.length) (highW (faultW 1094713344 n xs) xs.length) ≤ 1056964608 ∧ lowB n ≤ bandW 1056964608 (lowW (faultW 1094713344 n xs) xs.length) (highW (faultW 1094713344 n xs) xs.length) := by
  have hf : ∀ j, j < xs.length → IsN (faultW 1094713344 n xs j) ∧ -(ev (XB n) (-40)) ≤ svW (faultW 1094713344 n xs j) ∧ svW (faultW 1094713344 n xs j) ≤ ev (XB n) (-40) := fun j hj => by
    obtain ⟨p, hp1, hp2⟩ := hp j hj
    rw [faultW, hp2]
    exact fault_in n1 n2 hp1
  obtain ⟨⟨jl, jl1, el⟩, al⟩ := low_all xs.length h1 (fun j hj => (hf j hj).1)
  obtain ⟨⟨jh, jh1, eh⟩, ah⟩ := high_all xs.length h1 (fun j hj => (hf j hj).1)
  obtain ⟨lo, hlo⟩ : ∃ lo, lo = lowW (faultW 1094713344 n xs) xs.length := ⟨_, rfl⟩
  obtain ⟨hi, hhi⟩ : ∃ hi, hi = highW (faultW 1094713344 n xs) xs.length := ⟨_, rfl⟩
  have hle : svW lo ≤ svW hi := by rw [hlo, hhi]; exact Rat.le_trans (al 0 h1) (ah 0 h1)
  have l1 := hf jl jl1
  have g1 := hf jh jh1
  rw [← el, ← hlo] at l1
  rw [← eh, ← hhi] at g1
  rw [← hlo, ← hhi]
  clear el eh al ah hlo hhi hf hp
  obtain ⟨⟨t, b, j, r2, _⟩, l2, l3⟩ := l1
  obtain ⟨⟨s, a, i, r1, hs⟩, g2, g3⟩ := g1
  obtain ⟨t1, t2, t3, t4⟩ := tabD n (by omega) n1
  obtain ⟨_, _, _, _, _, hhalf⟩ := wave_const
  rw [svW_of r2] at hle l2 l3
  rw [svW_of r1] at hle g2 g3
  obtain ⟨z, hz, hrn⟩ := sub_sv r1 r2 hs hle
  have hX : ev (2 * XB n) (-40) = ev (XB n) (-40) + ev (XB n) (-40) := by rw [ev_add]; congr 1; omega
  have hzD : z ≤ capD n := hrn.2.1 _ (ra g3 l2 (by rw [← hX]; exact t1))
  have hzi : z < single.infRung := by omega
  have hD := (rv_le single (Nat.le_of_lt hzi)).2 hzD
  have hz0 := rv_nonneg' single z
  have hgi : 1056964608 < single.infRung := by decide
  rw [bandW, hz]
  simp only [Option.getD_some]
  rcases Nat.lt_or_ge 1056964608 z with h | h
  · obtain ⟨y, hy, ho⟩ := sub_neg hgi hzi h
    rw [hy]
    simp only [Option.getD_some]
    rw [if_pos (show FloatKind.f32.format.order y 0 = some .lt from ho)]
    refine ⟨by omega, ?_⟩
    rcases Nat.lt_or_ge n 3 with h3 | h3
    · rw [lowB, if_pos (by omega)]; exact Nat.le_refl _
    · exfalso
      have h5 := t4 h3
      have h6 := rv_nonneg' single (lowB n)
      have h7 := (rv_lt single (Nat.le_of_lt hzi)).2 h
      rw [hhalf] at h7
      exact rd' h5 hD h6 h7
  · obtain ⟨y, hy, hyr⟩ := sub_rn single hgi hzi h
    rw [hy]
    simp only [Option.getD_some]
    have hyg : y ≤ 1056964608 := hyr.2.1 _ (rb hz0)
    rw [if_neg (show ¬ FloatKind.f32.format.order y 0 = some .lt by
      rw [show FloatKind.f32.format = single from rfl, order_rung single (by omega) (by decide)]
      intro hcc
      simp only [compare, compareOfLessAndEq, Option.some.injEq] at hcc
      rw [if_neg (by omega)] at hcc
      split at hcc <;> cases hcc)]
    refine ⟨hyg, ?_⟩
    rcases Nat.lt_or_ge n 3 with h3 | h3
    · rw [lowB, if_pos (by omega)]; exact Nat.zero_le _
    · refine hyr.2.2 _ (by have := t3; omega) ?_
      have h5 := t4 h3
      rw [hhalf]
      exact rc h5 hD
/-- the band against the numbers that the law has -/
theorem band_law {n b : Nat} (n1 : 1 ≤ n) (n2 : n ≤ 40) (h1 : b ≤ 1056964608) (h2 : lowB n ≤ b) : (∃ o, single.order b 0 = some o ∧ (o == .lt) = false) ∧ (∃ o, double.order (up64 b) 4602687826371901653 = some o ∧ (o == .gt) = false) ∧ (∃ o, double.order (up64 b) (cN n) = some o ∧ (o == .lt) = false) := by
  obtain ⟨_, _, _, _, hup, _⟩ := wave_const
  have hb : b < single.infRung := Nat.lt_of_le_of_lt h1 (by decide)
  obtain ⟨u1, u2⟩ := up_rv hb
  have hu := up_le hb (show 1056964608 < single.infRung by decide) h1
  rw [hup] at hu
  obtain ⟨_, _, _, t4, t5⟩ := tabC n (by omega) n1
  refine ⟨⟨_, order_rung single hb (by decide), ?_⟩, ⟨_, order_rung double u1 (by decide +kernel), ?_⟩, ?_⟩
  · simp only [compare, compareOfLessAndEq]
    rw [if_neg (by omega)]
    split <;> rfl
  · simp only [compare, compareOfLessAndEq]
    rw [if_pos (by omega)]
    rfl
  · rcases Nat.lt_or_ge n 3 with h3 | h3
    · have h4 := t5 (by omega)
      obtain ⟨K, L, r1, r2⟩ := read_rung double u1
      have e0 : double.read 0 = .number false 0 (-1074) := by decide +kernel
      cases hc : double.read (cN n) with
      | number t m j =>
        have ho := order_sv (f := double) e0 hc
        have hord : double.order (up64 b) (cN n) = some (compare (signed false K (L - min L j).toNat) (signed t m (j - min L j).toNat)) := by rw [Format.order, r1, hc]; rfl
        refine ⟨_, hord, ?_⟩
        have a1 := (order_sv (f := double) r1 hc).2.1
        have a2 : ¬ double.order (up64 b) (cN n) = some .lt := by
          intro hlt
          have b1 := a1 hlt
          have b2 := ho.1 h4
          have b3 : sv false 0 (-1074) = 0 := by rw [sv, if_neg (by simp), ev_zero]
          have b4 : 0 ≤ sv false K L := by rw [sv, if_neg (by simp)]; exact ev_nonneg _ _
          -- the constant is below 0
          have b5 : t = true ∧ m ≠ 0 := by
            simp only [Format.order, e0, hc, Datum.order, Option.some.injEq, compare, compareOfLessAndEq] at h4
            cases t with
            | true =>
              refine ⟨rfl, fun hm => ?_⟩
              subst hm
              simp [signed] at h4
            | false =>
              exfalso
              simp only [signed, Bool.false_eq_true, if_false, Nat.shiftLeft_eq, Nat.zero_mul] at h4
              split at h4
              · cases h4
              · split at h4
                · cases h4
                · rename_i x1 x2
                  have : (0 : Int) ≤ ((m * 2 ^ (j - min (-1074) j).toNat : Nat) : Int) := Int.natCast_nonneg _
                  omega
          obtain ⟨rfl, hm⟩ := b5
          have b6 : 0 < ev m j := ev_pos (by omega) j
          have b7 : sv true m j = -(ev m j) := by rw [sv, if_pos rfl]
          grind
        rw [hord] at a2
        generalize compare (signed false K (L - min L j).toNat) (signed t m (j - min L j).toNat) = o at *
        cases o with
        | lt => exact absurd rfl a2
        | eq => rfl
        | gt => rfl
      | nan s f => rw [Format.order, e0, hc] at h4; cases h4
      | infinity t =>
        cases t with
        | true => exact ⟨.gt, by rw [Format.order, r1, hc]; rfl, rfl⟩
        | false => rw [Format.order, e0, hc] at h4; simp [Datum.order] at h4
    · obtain ⟨c1, c2⟩ := t4 h3
      have hl := up_le (Nat.lt_of_le_of_lt h2 hb) hb h2
      refine ⟨_, order_rung double u1 c2, ?_⟩
      simp only [compare, compareOfLessAndEq]
      rw [if_neg (by omega)]
      split <;> rfl
end Go.Proofs.Ytpnbjfhcnjdohaa
