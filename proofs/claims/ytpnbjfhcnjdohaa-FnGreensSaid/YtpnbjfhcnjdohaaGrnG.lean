/- Greens: what the program's functions answer at the law's flows and places. No walk stands here. -/
import Derived.Test.YtpnbjfhcnjdohaaProg
import Derived.Test.YtpnbjfhcnjdohaaGrnF
import Derived.Test.YtpnbjfhcnjdohaaGrnE
namespace Go.Proofs.Ytpnbjfhcnjdohaa
open Ieee
open Go.RowKit Plain
set_option linter.unusedVariables false
set_option maxRecDepth 100000
theorem getD_map {α β : Type} (f : α → β) (l : List α) (d : α) (e : β) {j : Nat} (h : j < l.length) : (l.map f).getD j e = f (l.getD j d) := by
  rw [List.getD_eq_getElem?_getD, List.getD_eq_getElem?_getD, List.getElem?_map, List.getElem?_eq_getElem h]; rfl
theorem mem_getD {l : List Nat} {j : Nat} (h : j < l.length) : l.getD j 0 ∈ l := by
  rw [List.getD_eq_getElem?_getD, List.getElem?_eq_getElem h]; exact List.getElem_mem h
attribute [local irreducible] flowW lostW cycW shW proW wantW D64 up64 fixW
theorem okC_of {K h : Nat} (k1 : 1 ≤ K) (k2 : K ≤ 24) (hh : h < 17) : okC K h = true := by
  have := List.all_eq_true.1 (List.all_eq_true.1 allC_t (K - 1) (List.mem_range.2 (by omega))) h (List.mem_range.2 hh)
  rwa [Nat.sub_add_cancel k1] at this
theorem okS_of {K h k : Nat} (k1 : 1 ≤ k) (k2 : k ≤ 6) (k3 : k ≤ K) (k4 : K ≤ 24) (hh : h < 17) : okS K h k = true := by
  have h1 := List.all_eq_true.1 allS_t (K - 1) (List.mem_range.2 (by omega))
  rw [Nat.sub_add_cancel (by omega)] at h1
  have := List.all_eq_true.1 (List.all_eq_true.1 h1 h (List.mem_range.2 hh)) (k - 1) (List.mem_range.2 (by omega))
  rwa [Nat.sub_add_cancel k1] at this
/-- the cycle for K parts of 32 and h halves -/
structure CycK (K h : Nat) : Prop where
  cyc : fop .quo .f32 (fop .add .f32 (fop .mul .f32 (some 1069547520) (nrm .f32 (lostW h))) (some 1084227584)) (some (flowW (32 - K))) = some (cycW K h)
  fin : finB (some (cycW K h)) = true
  fin2 : finB (nrm .f32 (cycW K h)) = true
  ge : ge2 (cycW K h) (lostW h) = true
  gt : gt0F (some (flowW (32 - K))) = true
  up : up64 (cycW K h) = D64 (fixW (cycW K h))
  le : fixW (lostW h) ≤ fixW (cycW K h)
  lt : fixW (cycW K h) < 2 ^ 40
  rung : cycW K h < 2139095040
  mul : floatBits .mul .f64 (up64 (cycW K h)) (D64 ((32 - K) * 33554432)) = some (proW K h)
  gap : (FloatKind.f64.format.order (proW K h) (wantW h) = some .lt ∧ ∃ g, floatBits .sub .f64 (wantW h) (proW K h) = some g ∧ FloatKind.f64.format.order g 4576918229304087675 = some .lt) ∨
    ∃ o, FloatKind.f64.format.order (proW K h) (wantW h) = some o ∧ (o == .lt) = false ∧ ∃ g, floatBits .sub .f64 (proW K h) (wantW h) = some g ∧ FloatKind.f64.format.order g 4576918229304087675 = some .lt
theorem cycK {K h : Nat} (k1 : 1 ≤ K) (k2 : K ≤ 24) (hh : h < 17) : CycK K h := by
  have h1 := okC_of k1 k2 hh
  rw [okC] at h1
  simp only [Bool.and_eq_true, decide_eq_true_eq] at h1
  obtain ⟨⟨⟨a1, ⟨⟨a2, a3⟩, a4⟩, a5⟩, ⟨a6, a7⟩, a8, a9⟩, a10, a11⟩ := h1
  refine ⟨a1, a2, a3, a4, a5, a6, a7, a8, a9, a10, ?_⟩
  rw [Bool.or_eq_true, Bool.and_eq_true, Bool.and_eq_true, Bool.or_eq_true] at a11
  rcases a11 with ⟨b1, b2⟩ | ⟨b1, b2⟩
  · left
    refine ⟨beq_iff_eq.1 b1, ?_⟩
    cases e : double.sub (wantW h) (proW K h) with
    | none => rw [e] at b2; cases b2
    | some g => rw [e] at b2; exact ⟨g, e, beq_iff_eq.1 b2⟩
  · right
    cases e : double.sub (proW K h) (wantW h) with
    | none => rw [e] at b2; cases b2
    | some g =>
      rw [e] at b2
      rcases b1 with b1 | b1
      · exact ⟨.gt, beq_iff_eq.1 b1, rfl, g, e, beq_iff_eq.1 b2⟩
      · exact ⟨.eq, beq_iff_eq.1 b1, rfl, g, e, beq_iff_eq.1 b2⟩
structure ShaK (K h k : Nat) : Prop where
  sh : fop .quo .f32 (fop .mul .f32 (fop .sub .f32 (nrm .f32 (cycW K h)) (nrm .f32 (lostW h))) (nrm .f32 (flowW k))) (some (flowW K)) = some (shW K h k)
  fin : finB (some (shW K h k)) = true
  up : up64 (shW K h k) = D64 (fixW (shW K h k))
  lt : fixW (shW K h k) < 2 ^ 40
  rung : shW K h k < 2139095040
  le : fixW (shW K h k) * K ≤ k * (fixW (cycW K h) - fixW (lostW h)) + K * 100000
  ge : k * (fixW (cycW K h) - fixW (lostW h)) ≤ fixW (shW K h k) * K + K * 100000
theorem shaK {K h k : Nat} (k1 : 1 ≤ k) (k2 : k ≤ 6) (k3 : k ≤ K) (k4 : K ≤ 24) (hh : h < 17) : ShaK K h k := by
  have h1 := okS_of k1 k2 k3 k4 hh
  rw [okS] at h1
  simp only [Bool.and_eq_true, decide_eq_true_eq] at h1
  obtain ⟨a1, ⟨⟨⟨a2, a3⟩, a4, a5⟩, a6⟩, a7⟩ := h1
  exact ⟨a1, a2, a3, a4, a5, a6, a7⟩
/-- the flows that the law draws -/
def Flo (ks : List Nat) : Prop := 1 ≤ ks.length ∧ ks.length ≤ 4 ∧ ∀ k ∈ ks, 1 ≤ k ∧ k ≤ 6
theorem flo_sum {ks : List Nat} (h : Flo ks) : 1 ≤ sumN ks ks.length ∧ sumN ks ks.length ≤ 24 := by
  have := sumN_bd h.2.2 ks.length (Nat.le_refl _)
  have := h.1
  have := h.2.1
  omega
theorem sumN_get {ks : List Nat} {j : Nat} (hj : j < ks.length) (m : Nat) (hm : m ≤ ks.length) (hjm : j < m) : ks.getD j 0 ≤ sumN ks m := by
  induction m with
  | zero => omega
  | succ m ih =>
    rw [sumN]
    by_cases e : j = m
    · subst e; omega
    · have := ih (by omega) (by omega); omega
theorem flo_flows {ks : List Nat} (h : Flo ks) : flowsB (ks.map flowW) = true := by
  refine flows_all.2 ⟨by rw [List.length_map]; have := h.1; have := h.2.1; omega, fun j hj => ?_⟩
  rw [List.length_map] at hj
  rw [getD_map flowW ks 0 0 hj]
  have h1 := h.2.2 _ (mem_getD hj)
  have h2 := tabK _ (by omega) h1.1
  exact ⟨h2.2.2.1, h2.2.2.2.1⟩
theorem cyc_M {ks : List Nat} (hk : Flo ks) {h : Nat} (hh : h < 17) : CycI.M (ks.map flowW) (lostW h) = (some (cycW (sumN ks ks.length) h), true) := by
  obtain ⟨s1, s2⟩ := flo_sum hk
  have C := cycK s1 s2 hh
  have hs := sumF_flow hk.2.2 hk.2.1 ks.length (Nat.le_refl _)
  have e1 : CycI.restF (ks.map flowW) = some (flowW (32 - sumN ks ks.length)) := by
    rw [CycI.restF, List.length_map, hs]
    exact (tabR _ (by omega)).1
  have e2 : CycI.cycF (ks.map flowW) (lostW h) = some (cycW (sumN ks ks.length) h) := by rw [CycI.cycF, e1]; exact C.cyc
  obtain ⟨_, _, _, t1, t2, _⟩ := tabH h hh
  have e3 : CycI.gt0F (some (flowW (32 - sumN ks ks.length))) = true := C.gt
  rw [CycI.M, e1, e2, flo_flows hk, t1, t2, e3, C.fin]
  rfl
theorem sha_M {ks : List Nat} (hk : Flo ks) {h : Nat} (hh : h < 17) : ShaI.M (ks.map flowW) (lostW h) (cycW (sumN ks ks.length) h) = (ks.map (shW (sumN ks ks.length) h), true) := by
  obtain ⟨s1, s2⟩ := flo_sum hk
  have C := cycK s1 s2 hh
  have hs := sumF_flow hk.2.2 hk.2.1 ks.length (Nat.le_refl _)
  obtain ⟨_, _, _, t1, t2, _⟩ := tabH h hh
  have e3 : gt0F (some (flowW (sumN ks ks.length))) = true := (tabR _ (by omega)).2 s1
  have hc : ShaI.condB (ks.map flowW) (lostW h) (cycW (sumN ks ks.length) h) = true := by
    rw [ShaI.condB, List.length_map, hs, flo_flows hk, t1, t2, C.fin2, C.ge, e3]; rfl
  have hsh : ∀ j, j < ks.length → ShaI.shareF (ks.map flowW) (lostW h) (cycW (sumN ks ks.length) h) j = some (shW (sumN ks ks.length) h (ks.getD j 0)) := fun j hj => by
    have h1 := hk.2.2 _ (mem_getD hj)
    rw [ShaI.shareF, List.length_map, hs, getD_map flowW ks 0 0 hj]
    exact (shaK h1.1 h1.2 (sumN_get hj _ (Nat.le_refl _) hj) s2 hh).sh
  have hall : ((List.range (ks.map flowW).length).map (ShaI.shareF (ks.map flowW) (lostW h) (cycW (sumN ks ks.length) h))).all finB = true := by
    rw [List.all_eq_true]
    intro x hx
    obtain ⟨j, hj, rfl⟩ := List.mem_map.1 hx
    rw [List.length_map, List.mem_range] at hj
    rw [hsh j hj]
    have h1 := hk.2.2 _ (mem_getD hj)
    exact (shaK h1.1 h1.2 (sumN_get hj _ (Nat.le_refl _) hj) s2 hh).fin
  rw [ShaI.M, hc, hall]
  simp only [Bool.and_self, if_true]
  congr 1
  apply List.ext_getElem?
  intro j
  rw [List.getElem?_map, List.getElem?_map, List.length_map]
  by_cases hj : j < ks.length
  · rw [List.getElem?_range hj, List.getElem?_eq_getElem hj, Option.map_some, Option.map_some, hsh j hj]
    rw [List.getD_eq_getElem?_getD, List.getElem?_eq_getElem hj]
    rfl
  · rw [List.getElem?_eq_none (by simp; omega), List.getElem?_eq_none (by omega)]; rfl
/-- what is lost and the first j shares -/
def totV (K h : Nat) (ks : List Nat) : Nat → Nat
  | 0 => fixW (lostW h)
  | j + 1 => totV K h ks j + fixW (shW K h (ks.getD j 0))
theorem tot_bd {ks : List Nat} (hk : Flo ks) {h : Nat} (hh : h < 17) (j : Nat) (hj : j ≤ ks.length) :
    totV (sumN ks ks.length) h ks j < 2 ^ 40 + j * 2 ^ 40 ∧ fixW (lostW h) ≤ totV (sumN ks ks.length) h ks j ∧
    (totV (sumN ks ks.length) h ks j - fixW (lostW h)) * sumN ks ks.length ≤ sumN ks j * (fixW (cycW (sumN ks ks.length) h) - fixW (lostW h)) + j * (sumN ks ks.length * 100000) ∧
    sumN ks j * (fixW (cycW (sumN ks ks.length) h) - fixW (lostW h)) ≤ (totV (sumN ks ks.length) h ks j - fixW (lostW h)) * sumN ks ks.length + j * (sumN ks ks.length * 100000) := by
  obtain ⟨s1, s2⟩ := flo_sum hk
  induction j with
  | zero =>
    have := (tabH h hh).2.2.1
    rw [totV, sumN]
    simp
    omega
  | succ j ih =>
    obtain ⟨i1, i2, i3, i4⟩ := ih (by omega)
    have h1 := hk.2.2 _ (mem_getD (show j < ks.length by omega))
    have S := shaK h1.1 h1.2 (sumN_get (by omega) _ (Nat.le_refl _) (show j < ks.length by omega)) s2 hh
    have s3 := S.lt
    have s4 := S.le
    have s5 := S.ge
    rw [totV, sumN]
    generalize fixW (shW (sumN ks ks.length) h (ks.getD j 0)) = v at *
    generalize totV (sumN ks ks.length) h ks j = T at *
    generalize fixW (lostW h) = VL at *
    generalize fixW (cycW (sumN ks ks.length) h) - VL = D at *
    generalize sumN ks ks.length = K at *
    generalize sumN ks j = a at *
    generalize ks.getD j 0 = k at *
    have e : T + v - VL = (T - VL) + v := by omega
    rw [e, Nat.add_mul, Nat.add_mul, Nat.add_mul, Nat.one_mul]
    rw [Nat.add_mul j 1, Nat.one_mul]
    omega
theorem tot_ok {ks : List Nat} (hk : Flo ks) {h : Nat} (hh : h < 17) : totV (sumN ks ks.length) h ks ks.length < 2 ^ 50 ∧ totV (sumN ks ks.length) h ks ks.length ≤ fixW (cycW (sumN ks ks.length) h) + 10000000 ∧ fixW (cycW (sumN ks ks.length) h) ≤ totV (sumN ks ks.length) h ks ks.length + 10000000 := by
  obtain ⟨s1, s2⟩ := flo_sum hk
  obtain ⟨b1, b2, b3, b4⟩ := tot_bd hk hh ks.length (Nat.le_refl _)
  have C := cycK s1 s2 hh
  have hle := C.le
  have h4 := hk.2.1
  have e : ks.length * (sumN ks ks.length * 100000) = sumN ks ks.length * (ks.length * 100000) := by rw [Nat.mul_left_comm]
  rw [Nat.mul_comm _ (sumN ks ks.length), e, ← Nat.mul_add] at b3
  rw [Nat.mul_comm (totV (sumN ks ks.length) h ks ks.length - fixW (lostW h)), e, ← Nat.mul_add] at b4
  have c1 := Nat.le_of_mul_le_mul_left b3 (by omega)
  have c2 := Nat.le_of_mul_le_mul_left b4 (by omega)
  have p : (2 : Nat) ^ 50 = 1024 * 2 ^ 40 := by decide
  have h5 : ks.length * 2 ^ 40 ≤ 4 * 2 ^ 40 := Nat.mul_le_mul_right _ h4
  omega
end Go.Proofs.Ytpnbjfhcnjdohaa
