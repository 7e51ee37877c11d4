/- Whatever flows and lost time are given, the program's CycleOf and the reference's return the same number, up to which NaN, and the same bool, and leave the flows alone: the law returns true. No condition. -/
import Derived.Test.YtcfkcahibkpjhaaRows
import Derived.Test.YtcfkcahibkpjhaaFlows
import Derived.Test.YtcfkcahibkpjhaaWords
import Derived.Test.YtcfkcahibkpjhaaOpen2
namespace Go.Proofs.Ytcfkcahibkpjhaa.lFnExactCycleOf
open Go.ChangeShapes Go.WideShapes Go.ChangeAt Go.RowKit Go.Proofs.Ytcfkcahibkpjhaa Plain
set_option linter.unusedVariables false
set_option linter.unusedSimpArgs false
attribute [local go_sem ↓] Go.wp_at_zero Go.wp_at_succ

def gt0F (m : Option Nat) : Bool := match m with | none => false | some b => FloatKind.f32.format.order b 0 == some .gt
theorem order_gt0 {r : Nat} {m : Option Nat} (h : nrm .f32 r = m) : (FloatKind.f32.format.order r 0 == some .gt) = gt0F m := by
  subst h
  cases e : nrm .f32 r with
  | none => rw [order_nan (.inl (nrm_none e))]; rfl
  | some b => rw [(nrm_some e).1]; rfl
theorem ge_t {l : Nat} (h : geB l = true) : FloatKind.f32.format.order l 0 = some .gt ∨ FloatKind.f32.format.order l 0 = some .eq := by
  simpa [geB] using h
theorem ge_f {l : Nat} (h : geB l = false) : FloatKind.f32.format.order l 0 = none ∨ FloatKind.f32.format.order l 0 = some .lt := by
  cases e : FloatKind.f32.format.order l 0 with
  | none => exact .inl rfl
  | some o => cases o <;> simp [geB, e] at h ⊢
def restF (xs : List Nat) : Option Nat := fop .sub .f32 (some 1065353216) (sumF xs xs.length)
def cycF (xs : List Nat) (l : Nat) : Option Nat := fop .quo .f32 (fop .add .f32 (fop .mul .f32 (some 1069547520) (nrm .f32 l)) (some 1084227584)) (restF xs)
def M (xs : List Nat) (l : Nat) : Option Nat × Bool := if flowsB xs && (finB (nrm .f32 l) && (geB l && (gt0F (restF xs) && finB (cycF xs l)))) then (cycF xs l, true) else (some 0, false)
theorem nrm_zero : nrm .f32 0 = some 0 := by decide
theorem nrm_one : nrm .f32 1065353216 = some 1065353216 := by decide
theorem nrm_15 : nrm .f32 1069547520 = some 1069547520 := by decide
theorem nrm_5 : nrm .f32 1084227584 = some 1084227584 := by decide
/-- a number and a bool -/
def FloatOut2 (m : Option Nat × Bool) (w : World) (r : Ending) (w' : World) : Prop := ∃ b, r = .returned (.tuple #[.float .f32 b, .bool m.2]) ∧ nrm .f32 b = m.1 ∧ Below w.heap.size w w'
theorem M_no {xs : List Nat} {l : Nat} (h : flowsB xs = false ∨ finB (nrm .f32 l) = false ∨ geB l = false ∨ gt0F (restF xs) = false ∨ finB (cycF xs l) = false) : M xs l = (some 0, false) := by
  rw [M, if_neg]
  rcases h with h | h | h | h | h <;> simp [h]

set_option maxHeartbeats 4000000 in
theorem impl_any (w : World) (v0 : Value) (xs : List Nat) (s0 : Sl w 1 v0 xs.length (xs.map vf)) (l : Nat) : Calls Try.prog 72 #[v0, .float .f32 l] w (FloatOut2 (M xs l) w) := by
  have HA := hd (addUp_any v0 xs w s0)
  have HF := hd (fun w' h => areFlows_any v0 xs w' (s0.below h))
  have HI := hd (IsFinite_any l)
  obtain ⟨A, cap, rfl, _, _⟩ := s0
  cases hf : flowsB xs with
  | false =>
    have H := hd (M_no (l := l) (.inl hf))
    have HF2 := hd (fun w' h => hf ▸ HF.out w' h)
    clear HF hf
    go_enter Try.func72, Try.ntmps72
    go_wp2_with (first
      | (go_at_call 134; refine HA.out.mono ?_; rintro e w' ⟨b, rfl, hb, n, rfl⟩; have Hb := hd hb; clear hb)
      | (refine wpList_fop _ rfl .sub _ _ _ _ rfl .f32 _ _ rfl rfl (by simp) ?_; intro r1 n1 h1; have H1 := hd h1; clear h1)
      | (go_at_call 135; refine (HF2.out _ (by first | exact below_drewN (Below.refl _ _) _ | exact below_drewN (below_drewN (Below.refl _ _) _) _)).mono ?_; rintro e w' ⟨rfl, k, rfl⟩))
    go_ret2
    rw [H.out]
    exact ⟨_, rfl, nrm_zero, by first | exact below_drewN (Below.refl _ _) _ | exact below_drewN (below_drewN (Below.refl _ _) _) _⟩
  | true =>
    have HF2 := hd (fun w' h => hf ▸ HF.out w' h)
    clear HF
    cases hi : finB (nrm .f32 l) with
    | false =>
      have H := hd (M_no (xs := xs) (l := l) (.inr (.inl hi)))
      have HI2 := hd (fun w' => hi ▸ HI.out w')
      clear HI hi hf
      go_enter Try.func72, Try.ntmps72
      go_wp2_with (first
        | (go_at_call 134; refine HA.out.mono ?_; rintro e w' ⟨b, rfl, hb, n, rfl⟩; have Hb := hd hb; clear hb)
        | (refine wpList_fop _ rfl .sub _ _ _ _ rfl .f32 _ _ rfl rfl (by simp) ?_; intro r1 n1 h1; have H1 := hd (h1.trans (by rw [Hb.out, nrm_one]; rfl) : nrm .f32 r1 = restF xs); clear h1)
        | (go_at_call 135; refine (HF2.out _ (by first | exact below_drewN (Below.refl _ _) _ | exact below_drewN (below_drewN (Below.refl _ _) _) _)).mono ?_; rintro e w' ⟨rfl, k, rfl⟩)
        | (go_at_call 136; refine (HI2.out _).mono ?_; rintro e w' ⟨rfl, k2, rfl⟩))
      go_ret2
      rw [H.out]
      exact ⟨_, rfl, nrm_zero, (by first | exact below_drewN (Below.refl _ _) _ | exact below_drewN (below_drewN (Below.refl _ _) _) _)⟩
    | true =>
    have HI2 := hd (fun w' => hi ▸ HI.out w')
    clear HI
    cases hg : geB l with
    | false =>
      have H := hd (M_no (xs := xs) (l := l) (.inr (.inr (.inl hg))))
      rcases ge_f hg with ho | ho
      all_goals
        clear hi hf hg
        go_enter Try.func72, Try.ntmps72
        go_wp2_with (first
          | (go_at_call 134; refine HA.out.mono ?_; rintro e w' ⟨b, rfl, hb, n, rfl⟩; have Hb := hd hb; clear hb)
          | (refine wpList_fop _ rfl .sub _ _ _ _ rfl .f32 _ _ rfl rfl (by simp) ?_; intro r1 n1 h1; have H1 := hd (h1.trans (by rw [Hb.out, nrm_one]; rfl) : nrm .f32 r1 = restF xs); clear h1)
          | (go_at_call 135; refine (HF2.out _ (by first | exact below_drewN (Below.refl _ _) _ | exact below_drewN (below_drewN (Below.refl _ _) _) _)).mono ?_; rintro e w' ⟨rfl, k, rfl⟩)
          | (go_at_call 136; refine (HI2.out _).mono ?_; rintro e w' ⟨rfl, k2, rfl⟩))
        go_ret2
        rw [H.out]
        exact ⟨_, rfl, nrm_zero, (by first | exact below_drewN (Below.refl _ _) _ | exact below_drewN (below_drewN (Below.refl _ _) _) _)⟩
    | true =>
    cases hr : gt0F (restF xs) with
    | false =>
      have H := hd (M_no (xs := xs) (l := l) (.inr (.inr (.inr (.inl hr)))))
      have HG := hd hr
      rcases ge_t hg with ho | ho
      all_goals
        clear hi hf hg hr
        go_enter Try.func72, Try.ntmps72
        go_wp2_with (first
          | (go_at_call 134; refine HA.out.mono ?_; rintro e w' ⟨b, rfl, hb, n, rfl⟩; have Hb := hd hb; clear hb)
          | (refine wpList_fop _ rfl .sub _ _ _ _ rfl .f32 _ _ rfl rfl (by simp) ?_; intro r1 n1 h1; have H1 := hd (h1.trans (by rw [Hb.out, nrm_one]; rfl) : nrm .f32 r1 = restF xs); clear h1; have g1 := (order_gt0 H1.out).trans HG.out)
          | (go_at_call 135; refine (HF2.out _ (by first | exact below_drewN (Below.refl _ _) _ | exact below_drewN (below_drewN (Below.refl _ _) _) _)).mono ?_; rintro e w' ⟨rfl, k, rfl⟩)
          | (go_at_call 136; refine (HI2.out _).mono ?_; rintro e w' ⟨rfl, k2, rfl⟩))
        go_ret2
        rw [H.out]
        exact ⟨_, rfl, nrm_zero, (by first | exact below_drewN (Below.refl _ _) _ | exact below_drewN (below_drewN (Below.refl _ _) _) _)⟩
    | true =>
    have HG := hd hr
    cases hq : finB (cycF xs l) with
    | false =>
      have H := hd (M_no (xs := xs) (l := l) (.inr (.inr (.inr (.inr hq)))))
      have HQ := hd hq
      rcases ge_t hg with ho | ho
      all_goals
        clear hi hf hg hr hq
        go_enter Try.func72, Try.ntmps72
        go_wp2_with (first
          | (go_at_call 134; refine HA.out.mono ?_; rintro e w' ⟨b, rfl, hb, n, rfl⟩; have Hb := hd hb; clear hb)
          | (refine wpList_fop _ rfl .sub _ _ _ _ rfl .f32 _ _ rfl rfl (by simp) ?_; intro r1 n1 h1; have H1 := hd (h1.trans (by rw [Hb.out, nrm_one]; rfl) : nrm .f32 r1 = restF xs); clear h1; have g1 := (order_gt0 H1.out).trans HG.out)
          | (go_at_call 135; refine (HF2.out _ (by first | exact below_drewN (Below.refl _ _) _ | exact below_drewN (below_drewN (Below.refl _ _) _) _)).mono ?_; rintro e w' ⟨rfl, k, rfl⟩)
          | (go_at_call 136; first | (refine (HI4.out _).mono ?_; rintro e w' ⟨rfl, k4, rfl⟩) | (refine (HI2.out _).mono ?_; rintro e w' ⟨rfl, k2, rfl⟩))
          | (refine wpList_fop _ rfl .mul _ _ _ _ rfl .f32 _ _ rfl rfl (by simp) ?_; intro r2 n2 h2; have H2 := hd h2; clear h2)
          | (refine wpList_fop _ rfl .add _ _ _ _ rfl .f32 _ _ rfl rfl (by simp) ?_; intro r3 n3 h3; have H3 := hd h3; clear h3)
          | (refine wpList_fop _ rfl .quo _ _ _ _ rfl .f32 _ _ rfl rfl (by simp) ?_; intro r4 n4 h4; have H4 := hd (h4.trans (by rw [H3.out, H2.out, H1.out, nrm_15, nrm_5]; rfl) : nrm .f32 r4 = cycF xs l); clear h4; have HI4 := hd (fun w => (by rw [← show nrm .f32 r4 = cycF xs l from H4.out] at HQ; exact HQ.out ▸ IsFinite_any r4 w : Calls Try.prog 136 #[.float .f32 r4] w (Draws (.bool false) w)))))
        go_ret2
        rw [H.out]
        exact ⟨_, rfl, nrm_zero, (by first | exact below_drewN (Below.refl _ _) _ | exact below_drewN (below_drewN (Below.refl _ _) _) _)⟩
    | true =>
      have H := hd (show M xs l = (cycF xs l, true) by rw [M, hf, hi, hg, hr, hq]; rfl)
      have HQ := hd hq
      rcases ge_t hg with ho | ho
      all_goals
        clear hi hf hg hr hq
        go_enter Try.func72, Try.ntmps72
        go_wp2_with (first
          | (go_at_call 134; refine HA.out.mono ?_; rintro e w' ⟨b, rfl, hb, n, rfl⟩; have Hb := hd hb; clear hb)
          | (refine wpList_fop _ rfl .sub _ _ _ _ rfl .f32 _ _ rfl rfl (by simp) ?_; intro r1 n1 h1; have H1 := hd (h1.trans (by rw [Hb.out, nrm_one]; rfl) : nrm .f32 r1 = restF xs); clear h1; have g1 := (order_gt0 H1.out).trans HG.out)
          | (go_at_call 135; refine (HF2.out _ (by first | exact below_drewN (Below.refl _ _) _ | exact below_drewN (below_drewN (Below.refl _ _) _) _)).mono ?_; rintro e w' ⟨rfl, k, rfl⟩)
          | (go_at_call 136; first | (refine (HI4.out _).mono ?_; rintro e w' ⟨rfl, k4, rfl⟩) | (refine (HI2.out _).mono ?_; rintro e w' ⟨rfl, k2, rfl⟩))
          | (refine wpList_fop _ rfl .mul _ _ _ _ rfl .f32 _ _ rfl rfl (by simp) ?_; intro r2 n2 h2; have H2 := hd h2; clear h2)
          | (refine wpList_fop _ rfl .add _ _ _ _ rfl .f32 _ _ rfl rfl (by simp) ?_; intro r3 n3 h3; have H3 := hd h3; clear h3)
          | (refine wpList_fop _ rfl .quo _ _ _ _ rfl .f32 _ _ rfl rfl (by simp) ?_; intro r4 n4 h4; have H4 := hd (h4.trans (by rw [H3.out, H2.out, H1.out, nrm_15, nrm_5]; rfl) : nrm .f32 r4 = cycF xs l); clear h4; have HI4 := hd (fun w => (by rw [← show nrm .f32 r4 = cycF xs l from H4.out] at HQ; exact HQ.out ▸ IsFinite_any r4 w : Calls Try.prog 136 #[.float .f32 r4] w (Draws (.bool true) w)))))
        go_ret2
        rw [H.out]
        exact ⟨_, rfl, H4.out, (by first | exact below_drewN (Below.refl _ _) _ | exact below_drewN (below_drewN (Below.refl _ _) _) _)⟩

set_option maxHeartbeats 4000000 in
theorem spec_any (w : World) (v0 : Value) (xs : List Nat) (s0 : Sl w 1 v0 xs.length (xs.map vf)) (l : Nat) : Calls Try.prog 70 #[v0, .float .f32 l] w (FloatOut2 (M xs l) w) := by
  have HF0 := l05Flows_any v0 xs w s0
  obtain ⟨A, cap, rfl, _, _⟩ := s0
  cases hf : flowsB xs with
  | false =>
    have H := hd (M_no (l := l) (.inl hf))
    rw [hf] at HF0
    have HF := hd HF0
    clear HF0 hf
    go_enter Try.func70, Try.ntmps70
    go_wp2_with (first
      | (go_at_call 132; refine HF.out.mono ?_; rintro e w' ⟨b, rfl, hb, n, rfl⟩; clear hb)
      )
    go_ret2
    rw [H.out]
    exact ⟨_, rfl, nrm_zero, (by first | exact below_drewN (Below.refl _ _) _ | exact below_drewN (below_drewN (Below.refl _ _) _) _)⟩
  | true =>
    rw [hf] at HF0
    have HF := hd HF0
    clear HF0
    cases hl : finB (nrm .f32 l) && geB l with
    | false =>
      have H := hd (M_no (xs := xs) (l := l) (by
        cases h1 : finB (nrm .f32 l) with
        | false => exact .inr (.inl rfl)
        | true => rw [h1, Bool.true_and] at hl; exact .inr (.inr (.inl hl))))
      have HL := hd (fun w => l02Least_f l w hl)
      clear hf hl
      go_enter Try.func70, Try.ntmps70
      go_wp2_with (first
        | (go_at_call 132; refine HF.out.mono ?_; rintro e w' ⟨b, rfl, hb, n, rfl⟩; have Hb := hd (hb rfl); clear hb)
        | (go_at_call 133; refine (HL.out _).mono ?_; rintro e w' ⟨rfl, k2, rfl⟩)
        )
      go_ret2
      rw [H.out]
      exact ⟨_, rfl, nrm_zero, (by first | exact below_drewN (Below.refl _ _) _ | exact below_drewN (below_drewN (Below.refl _ _) _) _)⟩
    | true =>
    have HL := hd (fun w => l02Least_t l w hl)
    cases hr : gt0F (restF xs) with
    | false =>
      have H := hd (M_no (xs := xs) (l := l) (.inr (.inr (.inr (.inl hr)))))
      have HG := hd hr
      clear hf hl hr
      go_enter Try.func70, Try.ntmps70
      go_wp2_with (first
        | (go_at_call 132; refine HF.out.mono ?_; rintro e w' ⟨b, rfl, hb, n, rfl⟩; have Hb := hd (hb rfl); clear hb)
        | (go_at_call 133; refine (HL.out _).mono ?_; rintro e w' ⟨rfl, k2, rfl⟩)
        | (refine wpList_fopG _ rfl .sub _ (.tmp 21) _ _ rfl .f32 _ _ rfl rfl (by simp) ?_; intro r1 n1 h1; have H1 := hd (h1.trans (by rw [Hb.out, nrm_one]; rfl) : nrm .f32 r1 = restF xs); clear h1; have g1 := (order_gt0 H1.out).trans HG.out)
        )
      go_ret2
      rw [H.out]
      exact ⟨_, rfl, nrm_zero, (by first | exact below_drewN (Below.refl _ _) _ | exact below_drewN (below_drewN (Below.refl _ _) _) _)⟩
    | true =>
    have HG := hd hr
    cases hq : finB (cycF xs l) with
    | false =>
      have H := hd (M_no (xs := xs) (l := l) (.inr (.inr (.inr (.inr hq)))))
      have HQ := hd hq
      clear hf hl hr hq
      go_enter Try.func70, Try.ntmps70
      go_wp2_with (first
        | (go_at_call 132; refine HF.out.mono ?_; rintro e w' ⟨b, rfl, hb, n, rfl⟩; have Hb := hd (hb rfl); clear hb)
        | (go_at_call 133; refine (HL.out _).mono ?_; rintro e w' ⟨rfl, k2, rfl⟩)
        | (refine wpList_fopG _ rfl .sub _ (.tmp 21) _ _ rfl .f32 _ _ rfl rfl (by simp) ?_; intro r1 n1 h1; have H1 := hd (h1.trans (by rw [Hb.out, nrm_one]; rfl) : nrm .f32 r1 = restF xs); clear h1; have g1 := (order_gt0 H1.out).trans HG.out)
        | (refine wpList_fop _ rfl .mul _ _ _ _ rfl .f32 _ _ rfl rfl (by simp) ?_; intro r2 n2 h2; have H2 := hd h2; clear h2)
        | (refine wpList_fop _ rfl .add _ _ _ _ rfl .f32 _ _ rfl rfl (by simp) ?_; intro r3 n3 h3; have H3 := hd h3; clear h3)
        | (refine wpList_fop _ rfl .sub _ (.tmp 29) _ _ rfl .f32 _ _ rfl rfl (by simp) ?_; intro r5 n5 h5; have H5 := hd (h5.trans (by rw [Hb.out, nrm_one]; rfl) : nrm .f32 r5 = restF xs); clear h5)
        | (refine wpList_fop _ rfl .quo _ _ _ _ rfl .f32 _ _ rfl rfl (by simp) ?_; intro r4 n4 h4; have H4 := hd (h4.trans (by rw [H3.out, H2.out, H5.out, nrm_15, nrm_5]; rfl) : nrm .f32 r4 = cycF xs l); clear h4)
        | (go_at_call 99; refine (l02Number_f _ _ (by rw [H4.out]; exact HQ.out)).mono ?_; rintro e w' ⟨rfl, hb2⟩)
        )
      go_ret2
      rw [H.out]
      exact ⟨_, rfl, nrm_zero, below_tr hb2 (by first | exact below_drewN (Below.refl _ _) _ | exact below_drewN (below_drewN (Below.refl _ _) _) _)⟩
    | true =>
      have H := hd (show M xs l = (cycF xs l, true) by
        have := Bool.and_eq_true _ _ ▸ hl
        rw [M, hf, this.1, this.2, hr, hq]; rfl)
      have HQ := hd hq
      clear hf hl hr hq
      go_enter Try.func70, Try.ntmps70
      go_wp2_with (first
        | (go_at_call 132; refine HF.out.mono ?_; rintro e w' ⟨b, rfl, hb, n, rfl⟩; have Hb := hd (hb rfl); clear hb)
        | (go_at_call 133; refine (HL.out _).mono ?_; rintro e w' ⟨rfl, k2, rfl⟩)
        | (refine wpList_fopG _ rfl .sub _ (.tmp 21) _ _ rfl .f32 _ _ rfl rfl (by simp) ?_; intro r1 n1 h1; have H1 := hd (h1.trans (by rw [Hb.out, nrm_one]; rfl) : nrm .f32 r1 = restF xs); clear h1; have g1 := (order_gt0 H1.out).trans HG.out)
        | (refine wpList_fop _ rfl .mul _ _ _ _ rfl .f32 _ _ rfl rfl (by simp) ?_; intro r2 n2 h2; have H2 := hd h2; clear h2)
        | (refine wpList_fop _ rfl .add _ _ _ _ rfl .f32 _ _ rfl rfl (by simp) ?_; intro r3 n3 h3; have H3 := hd h3; clear h3)
        | (refine wpList_fop _ rfl .sub _ (.tmp 29) _ _ rfl .f32 _ _ rfl rfl (by simp) ?_; intro r5 n5 h5; have H5 := hd (h5.trans (by rw [Hb.out, nrm_one]; rfl) : nrm .f32 r5 = restF xs); clear h5)
        | (refine wpList_fop _ rfl .quo _ _ _ _ rfl .f32 _ _ rfl rfl (by simp) ?_; intro r4 n4 h4; have H4 := hd (h4.trans (by rw [H3.out, H2.out, H5.out, nrm_15, nrm_5]; rfl) : nrm .f32 r4 = cycF xs l); clear h4)
        | (go_at_call 99; refine (l02Number_t _ _ (by rw [H4.out]; exact HQ.out)).mono ?_; rintro e w' ⟨rfl, hb2⟩)
        )
      go_ret2
      rw [H.out]
      exact ⟨_, rfl, H4.out, below_tr hb2 (by first | exact below_drewN (Below.refl _ _) _ | exact below_drewN (below_drewN (Below.refl _ _) _) _)⟩

set_option maxHeartbeats 2000000 in
theorem walk (w : World) (v0 : Value) (x0 : List Nat) (i0 : ∀ x ∈ x0, (Lit.float .f32 x).wf = true) (s0 : Sl w 1 v0 x0.length (x0.map (Value.float .f32 ·))) (l : Nat) (wl : (Lit.float .f32 l).wf = true) :
    Calls Try.prog 13 #[v0, .float .f32 l] w fun e w' => e = .returned (.bool true) ∧ Below w.heap.size w w' := by
  clear i0 wl
  have s0 : Sl w 1 v0 x0.length (x0.map vf) := s0
  obtain ⟨A0, cap0, hw0, _, hr0⟩ := id s0
  have hm0 := hr0.2.1
  by_cases b0 : x0.length ≤ 1048576
  rotate_left
  · subst hw0
    unfold maxLen at hm0
    have hx' : ¬ ((x0.length : Int) ≤ 1048576) := by omega
    go_enter Try.func13, Try.ntmps13
    go_wp2
    go_ret
    exact ⟨rfl, Below.refl _ _⟩
  have hx0 : (x0.length : Int) ≤ 1048576 := by omega
  have z0 := size_le b0
  have hB := Below.refl w.heap.size w
  clear hr0 hm0
  subst hw0
  go_enter Try.func13, Try.ntmps13
  go_wp2_with fail; refine (toFloat32S_any _ x0 _ (s0.below hB) b0).mono ?_; rintro e w1 ⟨u1, rfl, ho1, hb⟩
  replace hB := below_tr hb hB; clear hb
  go_wp2_with fail; refine (spec_any _ _ x0 (own_sl ho1 z0) l).mono ?_; rintro e w2 ⟨r1, rfl, h1, hb⟩
  have H1 := hd h1; clear h1
  replace hB := below_tr hb hB; clear hb ho1
  go_wp2_with fail; refine (toFloat32S_any _ x0 _ (s0.below hB) b0).mono ?_; rintro e w3 ⟨u2, rfl, ho2, hb⟩
  replace hB := below_tr hb hB; clear hb
  go_wp2_with fail; refine (impl_any _ _ x0 (own_sl ho2 z0) l).mono ?_; rintro e w4 ⟨r2, rfl, h2, hb⟩
  have H2 := hd h2; clear h2
  replace ho2 := own_below ho2 hb
  replace hB := below_tr hb hB; clear hb
  have HO := hd ho2; clear ho2
  have HB := hd hB; clear hB
  go_wp2_with (first
    | (refine wpList_cv _ rfl (.tmp 28) _ _ rfl _ rfl Try.underlying41 Try.underlying45 ?_; intro r3 n3 h3; have H3 := hd h3; clear h3)
    | (refine wpList_cv _ rfl (.tmp 30) _ _ rfl _ rfl Try.underlying41 Try.underlying45 ?_; intro r4 n4 h4; have H4 := hd h4; clear h4)
    | (go_at_call 30; refine (sameFloat_any _ _ (cvF (M x0 l).1) _ (H3.out.trans (congrArg cvF H2.out)) (H4.out.trans (congrArg cvF H1.out))).mono ?_; rintro e w' ⟨rfl, k, rfl⟩)
    | (go_at_call 71; refine (toFloat32S_any _ x0 _ (s0.below (below_more HB.out)) b0).mono ?_; rintro e w5 ⟨u3, rfl, ho3, hb⟩; have HO3 := hd ho3; have Hb := hd hb; clear ho3 hb)
    | (go_at_call 73; refine (eqFloat32S_t _ _ x0 x0 _ (own_sl (own_below (own_more HO.out) Hb.out) z0) (own_sl HO3.out z0) rfl).mono ?_; rintro e w6 ⟨rfl, hb6⟩; have Hb6 := hd hb6; clear hb6))
  go_ret
  exact ⟨rfl, below_tr Hb6.out (below_tr Hb.out (below_more HB.out))⟩

theorem own : ownKnob Try.prog.godebug = none := by kernel_rfl
theorem laidOut : laidOutB Try.prog = true := by kernel_rfl

set_option maxRecDepth 100000 in
theorem lifted (os : Os) (started : os.Started) (H : Type) (enc : TypeId × Value → H) :
    ReturnsInHanded {} Try.checked os 13 .any (Rows.fnExactCycleOfSpec.pre6 enc Try.prog Try.f13 Rows.fnExactCycleOfRow.domain false) (Rows.fnExactCycleOfSpec.post enc Try.prog Try.f13 false true false false) := by
  refine returnsInHanded_of_change (C := Try.checked) own started (by as_aux_lemma => kernel_rfl) Try.func13
    (ChangeSpec.witness6 (enc := enc) (C := Try.checked) false ⟨#[], #[.slice none 0 0, .float .f32 0], []⟩ 8 (by as_aux_lemma => kernel_rfl) (by as_aux_lemma => kernel_rfl) (by as_aux_lemma => kernel_rfl) (by as_aux_lemma => kernel_rfl)) ?_
  intro W base args ds gs before hval0 hW hcnd _
  have hval : ∀ (j : Nat) t v, Try.f13.params[j]? = some t → args[j]? = some v → Value.okWide Try.prog W .any base t v := hval0
  have hW' := hW
  obtain ⟨p, q, hA0, hV, rfl, hfz, hnd⟩ := hW
  have hA : DataW.TrodAll enc Try.prog W 0 (fun _ => true) true Try.f13.params.toList args.toList ds p := hA0
  rw [Try.params13] at hA hval
  obtain ⟨v0, vs0, d0, ds0, p0, q0, hargs, rfl, rfl, h0, r0⟩ := trodAll_cons hA
  obtain ⟨v1, vs1, d1, ds1, p1, q1, rfl, rfl, rfl, h1, r1⟩ := trodAll_cons r0
  obtain ⟨rfl, rfl, rfl⟩ := trodAll_nil r1
  obtain rfl : args = #[v0, v1] := by cases args; simp_all
  obtain ⟨rfl, rfl⟩ := trodVars_none hV
  have k0 := h0
  have lt0 : ∀ x ∈ p0, x.block < W.heap.size := by obtain ⟨m, hm⟩ := k0; exact DataW.trod_lt m _ _ _ hm
  obtain ⟨s0, len0, cap0, rfl⟩ := okWide_slice Try.underlying85 (hval 0 85 v0 rfl rfl)
  obtain ⟨x0, _, i0, w0⟩ := arg_floats Try.underlying85 Try.underlying41 (by as_aux_lemma => kernel_rfl) h0
  have k1 := h1
  have lt1 : ∀ x ∈ p1, x.block < W.heap.size := by obtain ⟨m, hm⟩ := k1; exact DataW.trod_lt m _ _ _ hm
  obtain ⟨a1, rfl, _, _, w1⟩ := open_float Try.underlying41 (hval 1 41 v1 rfl rfl) h1
  clear hA0 hval0
  refine (walk W _ x0 i0 w0 a1 w1).mono fun e W' ⟨he, bel⟩ => ?_
  subst he
  exact ⟨_, rfl, _, _, _, [], _, [], hW', trodAll_mk1 (shut_bool Try.underlying4 _), (trodAll_cons_mk (Below.trod laidOut (by as_aux_lemma => kernel_rfl) (of_decide_eq_true (by as_aux_lemma => kernel_rfl)) k0 bel lt0) (trodAll_cons_mk (Below.trod laidOut (by as_aux_lemma => kernel_rfl) (of_decide_eq_true (by as_aux_lemma => kernel_rfl)) k1 bel lt1) (trodAll_mk0))), rfl, bel.frame _, fun h => by cases h⟩

/-- The given statement. -/
theorem proved : Rows.FnExactCycleOfSaid :=
  OpenClaim.holds_of_wide 13 Try.f13 rfl rfl rfl rfl rfl rfl rfl ⟨rfl, rfl, rfl, rfl, rfl⟩ rfl rfl rfl rfl rfl (by kernel_rfl) Try.func13 (by kernel_rfl)
    (of_decide_eq_true (by kernel_rfl)) (by unfold Func.isWrapper; first | (rw [if_pos (by decide +kernel)]; kernel_rfl) | (rw [if_neg (by decide +kernel)]; exact ⟨rfl, rfl⟩))
    (fun os started H enc _ => lifted os started H enc)
#print axioms proved

end Go.Proofs.Ytcfkcahibkpjhaa.lFnExactCycleOf
