/- Greens: GreenWave at the law's places. No walk stands here. -/
import Derived.Test.YtpnbjfhcnjdohaaProg
import Derived.Test.YtpnbjfhcnjdohaaGrnG
namespace Go.Proofs.Ytpnbjfhcnjdohaa
open Ieee
open Go.RowKit Plain
set_option linter.unusedVariables false
set_option maxRecDepth 100000
theorem tabPl : ∀ p : Nat, p < 64 → floatBits .quo .f32 (floatOfInt .f32 (p : Int)) 1082130432 = some (placeW p) := by decide +kernel
attribute [local irreducible] eW mW quoW placeW lowB cN up64
/-- the places that the law draws -/
def Pla (ps : List Nat) : Prop := 1 ≤ ps.length ∧ ps.length ≤ 5 ∧ ∀ p ∈ ps, p < 64
theorem pla_get {ps : List Nat} (h : Pla ps) {j : Nat} (hj : j < ps.length) : ps.getD j 0 < 64 := h.2.2 _ (mem_getD hj)
theorem pla_flows {ps : List Nat} (h : Pla ps) : flowsB (ps.map placeW) = true := by
  refine flows_all.2 ⟨by rw [List.length_map]; have := h.1; have := h.2.1; omega, fun j hj => ?_⟩
  rw [List.length_map] at hj
  rw [getD_map placeW ps 0 0 hj]
  have h2 := place_okW (pla_get h hj)
  exact ⟨h2.2.1, h2.2.2.1⟩
theorem pla_wave {ps : List Nat} (h : Pla ps) {n : Nat} (n1 : 1 ≤ n) (n2 : n ≤ 40) : waveM (ps.map placeW) 1069547520 1090519040 1056964608 n =
    (marksW 1094713344 n (ps.map placeW) ps.length, bandW 1056964608 (lowW (faultW 1094713344 n (ps.map placeW)) ps.length) (highW (faultW 1094713344 n (ps.map placeW)) ps.length), true) := by
  obtain ⟨c1, c2, c3, c4, _⟩ := wave_const
  have hb : waveB (ps.map placeW) 1069547520 1090519040 1056964608 n = true := by
    have ha : (ps.map placeW).all (okQ 1094713344) = true := by
      rw [List.all_eq_true]
      intro x hx
      obtain ⟨p, hp, rfl⟩ := List.mem_map.1 hx
      exact (place_okW (h.2.2 p hp)).1
    rw [waveB, c1, c2, c3, c4, ha, pla_flows h, inR_iff.2 ⟨by omega, by omega⟩]
    rfl
  rw [waveM, hb, if_pos rfl, c1, List.length_map, Int.toNat_natCast]
theorem pla_mark {ps : List Nat} (h : Pla ps) {n : Nat} (n1 : 1 ≤ n) (n2 : n ≤ 40) (k : Nat) (hk : k < ps.length) :
    (marksW 1094713344 n (ps.map placeW) ps.length).getD k 0 < 4294967296 ∧ FloatKind.f32.format.order ((marksW 1094713344 n (ps.map placeW) ps.length).getD k 0) ((marksW 1094713344 n (ps.map placeW) ps.length).getD k 0) = some .eq := by
  have e : (marksW 1094713344 n (ps.map placeW) ps.length).getD k 0 = markW n (quoW 1094713344 ((ps.map placeW).getD k 0)) := by
    rw [marksW, List.getD_eq_getElem?_getD, List.getElem?_map, List.getElem?_range hk]; rfl
  rw [e, getD_map placeW ps 0 0 hk]
  have h2 := place_okW (pla_get h hk)
  have hq := (place_ok (L := 1094713344) (p := placeW (ps.getD k 0)) (by simpa [Lit.wf] using h2.2.2.2) (by decide) h2.2.1 h2.2.2.1 h2.1).2.1
  have hm := (steps_all n1 (by omega) hq).2.2.2
  have hlt : markW n (quoW 1094713344 (placeW (ps.getD k 0))) < single.infRung := by
    rw [markW]
    split
    · decide
    · exact hm
  generalize markW n (quoW 1094713344 (placeW (ps.getD k 0))) = x at *
  have hinf : single.infRung = 2139095040 := by decide
  refine ⟨by omega, ?_⟩
  rw [show FloatKind.f32.format = single from rfl, order_rung single hlt hlt]
  simp only [compare, compareOfLessAndEq]
  rw [if_neg (by omega)]
  simp
theorem pla_band {ps : List Nat} (h : Pla ps) {n : Nat} (n1 : 1 ≤ n) (n2 : n ≤ 40) : ∃ b, b = bandW 1056964608 (lowW (faultW 1094713344 n (ps.map placeW)) ps.length) (highW (faultW 1094713344 n (ps.map placeW)) ps.length) ∧ b < 2139095040 ∧ FloatKind.f32.format.order b b = some .eq ∧
    (∃ o, FloatKind.f32.format.order b 0 = some o ∧ (o == .lt) = false) ∧ (∃ o, FloatKind.f64.format.order (up64 b) 4602687826371901653 = some o ∧ (o == .gt) = false) ∧ (∃ o, FloatKind.f64.format.order (up64 b) (cN n) = some o ∧ (o == .lt) = false) := by
  have hb := band_ok n1 n2 (xs := ps.map placeW) (by rw [List.length_map]; exact h.1) (fun k hk => by
    rw [List.length_map] at hk
    exact ⟨_, pla_get h hk, getD_map placeW ps 0 0 hk⟩)
  rw [List.length_map] at hb
  have hl := band_law n1 n2 hb.1 hb.2
  obtain ⟨b, e⟩ : ∃ b, b = bandW 1056964608 (lowW (faultW 1094713344 n (ps.map placeW)) ps.length) (highW (faultW 1094713344 n (ps.map placeW)) ps.length) := ⟨_, rfl⟩
  rw [← e] at hb hl
  refine ⟨b, e, by omega, ?_, hl⟩
  have hlt : b < single.infRung := Nat.lt_of_le_of_lt hb.1 (by decide)
  rw [show FloatKind.f32.format = single from rfl, order_rung single hlt hlt]
  simp only [compare, compareOfLessAndEq]
  rw [if_neg (by omega)]
  simp
end Go.Proofs.Ytpnbjfhcnjdohaa
