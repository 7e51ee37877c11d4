/- Greens: sums of flows, cycles and shares as the law makes them. No walk stands here. -/
import Derived.Test.YtpnbjfhcnjdohaaProg
import Derived.Test.YtpnbjfhcnjdohaaGrnB
import Derived.Test.YtpnbjfhcnjdohaaCycI
import Derived.Test.YtpnbjfhcnjdohaaShaI
import Derived.Test.YtpnbjfhcnjdohaaFloorI
namespace Go.Proofs.Ytpnbjfhcnjdohaa
open Ieee
open Go.RowKit Plain
set_option linter.unusedVariables false
set_option maxRecDepth 100000
theorem D64_ok {A : Nat} (h : A < 2 ^ 53) : D64 A < double.infRung ∧ rv double (D64 A) = ev A (-30) := by
  obtain ⟨h1, h2, _⟩ := D_exact (m := A) (e := -30) h (by omega) (by omega)
  exact ⟨h1, h2⟩
theorem D64_le {A B : Nat} (hB : B < 2 ^ 53) (h : A ≤ B) : D64 A ≤ D64 B := by
  obtain ⟨a1, a2⟩ := D64_ok (A := A) (by omega)
  obtain ⟨b1, b2⟩ := D64_ok hB
  rw [← rv_le double (Nat.le_of_lt a1), a2, b2, ev_le]
  exact h
theorem D64_lt {A B : Nat} (hB : B < 2 ^ 53) (h : A < B) : D64 A < D64 B := by
  obtain ⟨a1, a2⟩ := D64_ok (A := A) (by omega)
  obtain ⟨b1, b2⟩ := D64_ok hB
  rw [← rv_lt double (Nat.le_of_lt b1), a2, b2, ev_lt]
  exact h
theorem rn_is {f : Format} {q : Rat} {z R : Nat} (h : RN f q z) (hR : R < f.infRung) (e : rv f R = q) : z = R := Nat.le_antisymm (h.2.1 R (by rw [e]; exact Rat.le_refl)) (h.2.2 R (Nat.le_of_lt hR) (by rw [e]; exact Rat.le_refl))
theorem D64_add {A B : Nat} (h : A + B < 2 ^ 53) : floatBits .add .f64 (D64 A) (D64 B) = some (D64 (A + B)) := by
  obtain ⟨a1, a2⟩ := D64_ok (A := A) (by omega)
  obtain ⟨b1, b2⟩ := D64_ok (A := B) (by omega)
  obtain ⟨c1, c2⟩ := D64_ok h
  obtain ⟨z, h1, h2⟩ := add_rn double a1 b1
  have e : z = D64 (A + B) := rn_is h2 c1 (by rw [a2, b2, c2, ev_add])
  rw [← e]
  exact h1
theorem D64_sub {A B : Nat} (hA : A < 2 ^ 53) (h : B ≤ A) : floatBits .sub .f64 (D64 A) (D64 B) = some (D64 (A - B)) := by
  obtain ⟨a1, a2⟩ := D64_ok hA
  obtain ⟨b1, b2⟩ := D64_ok (A := B) (by omega)
  obtain ⟨c1, c2⟩ := D64_ok (A := A - B) (by omega)
  obtain ⟨z, h1, h2⟩ := sub_rn double a1 b1 (D64_le hA h)
  have e : z = D64 (A - B) := rn_is h2 c1 (by
    have h3 := ev_add (A - B) B (-30)
    rw [Nat.sub_add_cancel h] at h3
    rw [a2, b2, c2, ← h3]
    grind)
  rw [← e]
  exact h1
theorem D64_gap {A B : Nat} (hA : A < 2 ^ 53) (hB : B < 2 ^ 53) : (A < B → FloatKind.f64.format.order (D64 A) (D64 B) = some .lt) ∧ (B ≤ A → ∃ o, FloatKind.f64.format.order (D64 A) (D64 B) = some o ∧ (o == .lt) = false) := by
  obtain ⟨a1, _⟩ := D64_ok hA
  obtain ⟨b1, _⟩ := D64_ok hB
  have ho : FloatKind.f64.format.order (D64 A) (D64 B) = some (compare (D64 A) (D64 B)) := order_rung double a1 b1
  rw [ho]
  constructor
  · intro h
    have := D64_lt hB h
    simp only [compare, compareOfLessAndEq]
    rw [if_pos this]
  · intro h
    have := D64_le hA h
    refine ⟨_, rfl, ?_⟩
    simp only [compare, compareOfLessAndEq]
    rw [if_neg (by omega)]
    split <;> rfl
theorem D64_top : D64 10000000 < 4576918229304087675 := by decide +kernel
theorem D64_small {D : Nat} (h : D ≤ 10000000) : FloatKind.f64.format.order (D64 D) 4576918229304087675 = some .lt := by
  have h1 := D64_le (A := D) (B := 10000000) (by omega) h
  have h2 := D64_top
  obtain ⟨a1, _⟩ := D64_ok (A := D) (by omega)
  have ho : FloatKind.f64.format.order (D64 D) 4576918229304087675 = some (compare (D64 D) 4576918229304087675) := order_rung double a1 (by decide +kernel)
  rw [ho]
  simp only [compare, compareOfLessAndEq]
  rw [if_pos (by omega)]
/-- a number in 32 bits, in 64 -/
theorem conv_rung {P : Program} (src dst : TypeId) {b : Nat} (hs : P.underlying src = some (.float .f32)) (hd : P.underlying dst = some (.float .f64)) (h : b < 2139095040) (w : World) :
    (convert src dst (.float .f32 b)).run P w = .ok (.float .f64 (up64 b)) w := by
  obtain ⟨K, L, h1, _⟩ := read_rung single (r := b) (Nat.lt_of_lt_of_le h (by decide))
  rw [conv_up src dst hs hd h1 w, up64, h1]
/-! tables -/
theorem tabK : ∀ k : Nat, k < 7 → 1 ≤ k → floatBits .quo .f32 (floatOfInt .f32 (k : Int)) 1107296256 = some (flowW k) ∧ up64 (flowW k) = D64 (k * 33554432) ∧ finB (nrm .f32 (flowW k)) = true ∧ geB (flowW k) = true ∧ flowW k < 2139095040 ∧ nrm .f32 (flowW k) = some (flowW k) := by decide +kernel
theorem tabA : ∀ a : Nat, a < 19 → ∀ k : Nat, k < 7 → fop .add .f32 (some (flowW a)) (nrm .f32 (flowW k)) = some (flowW (a + k)) := by decide +kernel
theorem tabR : ∀ K : Nat, K < 25 → fop .sub .f32 (some 1065353216) (some (flowW K)) = some (flowW (32 - K)) ∧ (1 ≤ K → gt0F (some (flowW K)) = true) := by decide +kernel
theorem tabH : ∀ h : Nat, h < 17 → floatBits .quo .f32 (floatOfInt .f32 (h : Int)) 1073741824 = some (lostW h) ∧ up64 (lostW h) = D64 (fixW (lostW h)) ∧ fixW (lostW h) < 2 ^ 40 ∧ finB (nrm .f32 (lostW h)) = true ∧ geB (lostW h) = true ∧ lostW h < 2139095040 ∧
    floatBits .mul .f64 4609434218613702656 (up64 (lostW h)) = some (D64 (3 * h * 268435456)) ∧ floatBits .add .f64 (D64 (3 * h * 268435456)) 4617315517961601024 = some (wantW h) := by decide +kernel
theorem one_64 : D64 1073741824 = 4607182418800017408 ∧ D64 0 = 0 ∧ flowW 0 = 0 := by decide +kernel
def sumN (ks : List Nat) : Nat → Nat
  | 0 => 0
  | j + 1 => sumN ks j + ks.getD j 0
theorem sumN_snoc (ks : List Nat) (k : Nat) : sumN (ks ++ [k]) (ks ++ [k]).length = sumN ks ks.length + k := by
  have : ∀ j, j ≤ ks.length → sumN (ks ++ [k]) j = sumN ks j := by
    intro j
    induction j with
    | zero => intro _; rfl
    | succ j ih =>
      intro hj
      rw [sumN, sumN, ih (by omega), List.getD_eq_getElem?_getD, List.getElem?_append_left (by omega), ← List.getD_eq_getElem?_getD]
  rw [List.length_append]
  show sumN (ks ++ [k]) ks.length + (ks ++ [k]).getD ks.length 0 = _
  rw [this _ (Nat.le_refl _), List.getD_eq_getElem?_getD, List.getElem?_append_right (Nat.le_refl _)]
  simp
theorem sumN_bd {ks : List Nat} (h : ∀ k ∈ ks, 1 ≤ k ∧ k ≤ 6) (j : Nat) (hj : j ≤ ks.length) : j ≤ sumN ks j ∧ sumN ks j ≤ 6 * j := by
  induction j with
  | zero => exact ⟨Nat.le_refl _, Nat.le_refl _⟩
  | succ j ih =>
    have h1 := ih (by omega)
    have h2 := h (ks.getD j 0) (by rw [List.getD_eq_getElem?_getD, List.getElem?_eq_getElem (by omega)]; exact List.getElem_mem (by omega))
    rw [sumN]
    omega
theorem sumF_flow {ks : List Nat} (h : ∀ k ∈ ks, 1 ≤ k ∧ k ≤ 6) (hl : ks.length ≤ 4) (j : Nat) (hj : j ≤ ks.length) : sumF (ks.map flowW) j = some (flowW (sumN ks j)) := by
  induction j with
  | zero => rw [sumF, sumN, one_64.2.2]
  | succ j ih =>
    have hb := sumN_bd h j (by omega)
    have h2 := h (ks.getD j 0) (by rw [List.getD_eq_getElem?_getD, List.getElem?_eq_getElem (by omega)]; exact List.getElem_mem (by omega))
    rw [sumF, ih (by omega), sumN]
    have e : (ks.map flowW).getD j 0 = flowW (ks.getD j 0) := by
      rw [List.getD_eq_getElem?_getD, List.getD_eq_getElem?_getD, List.getElem?_map, List.getElem?_eq_getElem (by omega)]; rfl
    rw [e]
    exact tabA _ (by omega) _ (by omega)
end Go.Proofs.Ytpnbjfhcnjdohaa
