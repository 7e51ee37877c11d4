/- CycleOf of the program: a contract (cut from the law's text). -/
import Derived.Test.YtpnbjfhcnjdohaaProg
import Derived.Test.YtpnbjfhcnjdohaaFlows
import Derived.Test.YtpnbjfhcnjdohaaWords
namespace Go.Proofs.Ytpnbjfhcnjdohaa.CycI
open Go.RowKit Go.Proofs.Ytpnbjfhcnjdohaa Plain
set_option linter.unusedVariables false
set_option linter.unusedSimpArgs false
attribute [local go_sem ↓] Go.wp_at_zero Go.wp_at_succ

def gt0F (m : Option Nat) : Bool := match m with | none => false | some b => FloatKind.f32.format.order b 0 == some .gt
theorem order_gt0 {r : Nat} {m : Option Nat} (h : nrm .f32 r = m) : (FloatKind.f32.format.order r 0 == some .gt) = gt0F m := by
  subst h
  cases e : nrm .f32 r with
  | none => rw [order_nan (.inl (nrm_none e))]; rfl
  | some b => rw [(nrm_some e).1]; rfl
theorem ge_t {l : Nat} (h : geB l = true) : FloatKind.f32.format.order l 0 = some .gt ∨ FloatKind.f32.format.order l 0 = some .eq := by
  simpa [geB] using h
theorem ge_f {l : Nat} (h : geB l = false) : FloatKind.f32.format.order l 0 = none ∨ FloatKind.f32.format.order l 0 = some .lt := by
  cases e : FloatKind.f32.format.order l 0 with
  | none => exact .inl rfl
  | some o => cases o <;> simp [geB, e] at h ⊢
def restF (xs : List Nat) : Option Nat := fop .sub .f32 (some 1065353216) (sumF xs xs.length)
def cycF (xs : List Nat) (l : Nat) : Option Nat := fop .quo .f32 (fop .add .f32 (fop .mul .f32 (some 1069547520) (nrm .f32 l)) (some 1084227584)) (restF xs)
def M (xs : List Nat) (l : Nat) : Option Nat × Bool := if flowsB xs && (finB (nrm .f32 l) && (geB l && (gt0F (restF xs) && finB (cycF xs l)))) then (cycF xs l, true) else (some 0, false)
theorem nrm_zero : nrm .f32 0 = some 0 := by decide
theorem nrm_one : nrm .f32 1065353216 = some 1065353216 := by decide
theorem nrm_15 : nrm .f32 1069547520 = some 1069547520 := by decide
theorem nrm_5 : nrm .f32 1084227584 = some 1084227584 := by decide
/-- a number and a bool -/
def FloatOut2 (m : Option Nat × Bool) (w : World) (r : Ending) (w' : World) : Prop := ∃ b, r = .returned (.tuple #[.float .f32 b, .bool m.2]) ∧ nrm .f32 b = m.1 ∧ Below w.heap.size w w'
theorem M_no {xs : List Nat} {l : Nat} (h : flowsB xs = false ∨ finB (nrm .f32 l) = false ∨ geB l = false ∨ gt0F (restF xs) = false ∨ finB (cycF xs l) = false) : M xs l = (some 0, false) := by
  rw [M, if_neg]
  rcases h with h | h | h | h | h <;> simp [h]

set_option maxHeartbeats 4000000 in
theorem impl_any (w : World) (v0 : Value) (xs : List Nat) (s0 : Sl w 1 v0 xs.length (xs.map vf)) (l : Nat) : Calls Try.prog 6 #[v0, .float .f32 l] w (FloatOut2 (M xs l) w) := by
  have HA := hd (addUp_any v0 xs w s0)
  have HF := hd (fun w' h => areFlows_any v0 xs w' (s0.below h))
  have HI := hd (IsFinite_any l)
  obtain ⟨A, cap, rfl, _, _⟩ := s0
  cases hf : flowsB xs with
  | false =>
    have H := hd (M_no (l := l) (.inl hf))
    have HF2 := hd (fun w' h => hf ▸ HF.out w' h)
    clear HF hf
    go_enter Try.func6, Try.ntmps6
    go_wp2_with (first
      | (go_at_call 15; refine HA.out.mono ?_; rintro e w' ⟨b, rfl, hb, n, rfl⟩; have Hb := hd hb; clear hb)
      | (refine wpList_fop _ rfl .sub _ _ _ _ rfl .f32 _ _ rfl rfl (by simp) ?_; intro r1 n1 h1; have H1 := hd h1; clear h1)
      | (go_at_call 16; refine (HF2.out _ (by first | exact below_drewN (Below.refl _ _) _ | exact below_drewN (below_drewN (Below.refl _ _) _) _)).mono ?_; rintro e w' ⟨rfl, k, rfl⟩))
    go_ret2
    rw [H.out]
    exact ⟨_, rfl, nrm_zero, by first | exact below_drewN (Below.refl _ _) _ | exact below_drewN (below_drewN (Below.refl _ _) _) _⟩
  | true =>
    have HF2 := hd (fun w' h => hf ▸ HF.out w' h)
    clear HF
    cases hi : finB (nrm .f32 l) with
    | false =>
      have H := hd (M_no (xs := xs) (l := l) (.inr (.inl hi)))
      have HI2 := hd (fun w' => hi ▸ HI.out w')
      clear HI hi hf
      go_enter Try.func6, Try.ntmps6
      go_wp2_with (first
        | (go_at_call 15; refine HA.out.mono ?_; rintro e w' ⟨b, rfl, hb, n, rfl⟩; have Hb := hd hb; clear hb)
        | (refine wpList_fop _ rfl .sub _ _ _ _ rfl .f32 _ _ rfl rfl (by simp) ?_; intro r1 n1 h1; have H1 := hd (h1.trans (by rw [Hb.out, nrm_one]; rfl) : nrm .f32 r1 = restF xs); clear h1)
        | (go_at_call 16; refine (HF2.out _ (by first | exact below_drewN (Below.refl _ _) _ | exact below_drewN (below_drewN (Below.refl _ _) _) _)).mono ?_; rintro e w' ⟨rfl, k, rfl⟩)
        | (go_at_call 17; refine (HI2.out _).mono ?_; rintro e w' ⟨rfl, k2, rfl⟩))
      go_ret2
      rw [H.out]
      exact ⟨_, rfl, nrm_zero, (by first | exact below_drewN (Below.refl _ _) _ | exact below_drewN (below_drewN (Below.refl _ _) _) _)⟩
    | true =>
    have HI2 := hd (fun w' => hi ▸ HI.out w')
    clear HI
    cases hg : geB l with
    | false =>
      have H := hd (M_no (xs := xs) (l := l) (.inr (.inr (.inl hg))))
      rcases ge_f hg with ho | ho
      all_goals
        clear hi hf hg
        go_enter Try.func6, Try.ntmps6
        go_wp2_with (first
          | (go_at_call 15; refine HA.out.mono ?_; rintro e w' ⟨b, rfl, hb, n, rfl⟩; have Hb := hd hb; clear hb)
          | (refine wpList_fop _ rfl .sub _ _ _ _ rfl .f32 _ _ rfl rfl (by simp) ?_; intro r1 n1 h1; have H1 := hd (h1.trans (by rw [Hb.out, nrm_one]; rfl) : nrm .f32 r1 = restF xs); clear h1)
          | (go_at_call 16; refine (HF2.out _ (by first | exact below_drewN (Below.refl _ _) _ | exact below_drewN (below_drewN (Below.refl _ _) _) _)).mono ?_; rintro e w' ⟨rfl, k, rfl⟩)
          | (go_at_call 17; refine (HI2.out _).mono ?_; rintro e w' ⟨rfl, k2, rfl⟩))
        go_ret2
        rw [H.out]
        exact ⟨_, rfl, nrm_zero, (by first | exact below_drewN (Below.refl _ _) _ | exact below_drewN (below_drewN (Below.refl _ _) _) _)⟩
    | true =>
    cases hr : gt0F (restF xs) with
    | false =>
      have H := hd (M_no (xs := xs) (l := l) (.inr (.inr (.inr (.inl hr)))))
      have HG := hd hr
      rcases ge_t hg with ho | ho
      all_goals
        clear hi hf hg hr
        go_enter Try.func6, Try.ntmps6
        go_wp2_with (first
          | (go_at_call 15; refine HA.out.mono ?_; rintro e w' ⟨b, rfl, hb, n, rfl⟩; have Hb := hd hb; clear hb)
          | (refine wpList_fop _ rfl .sub _ _ _ _ rfl .f32 _ _ rfl rfl (by simp) ?_; intro r1 n1 h1; have H1 := hd (h1.trans (by rw [Hb.out, nrm_one]; rfl) : nrm .f32 r1 = restF xs); clear h1; have g1 := (order_gt0 H1.out).trans HG.out)
          | (go_at_call 16; refine (HF2.out _ (by first | exact below_drewN (Below.refl _ _) _ | exact below_drewN (below_drewN (Below.refl _ _) _) _)).mono ?_; rintro e w' ⟨rfl, k, rfl⟩)
          | (go_at_call 17; refine (HI2.out _).mono ?_; rintro e w' ⟨rfl, k2, rfl⟩))
        go_ret2
        rw [H.out]
        exact ⟨_, rfl, nrm_zero, (by first | exact below_drewN (Below.refl _ _) _ | exact below_drewN (below_drewN (Below.refl _ _) _) _)⟩
    | true =>
    have HG := hd hr
    cases hq : finB (cycF xs l) with
    | false =>
      have H := hd (M_no (xs := xs) (l := l) (.inr (.inr (.inr (.inr hq)))))
      have HQ := hd hq
      rcases ge_t hg with ho | ho
      all_goals
        clear hi hf hg hr hq
        go_enter Try.func6, Try.ntmps6
        go_wp2_with (first
          | (go_at_call 15; refine HA.out.mono ?_; rintro e w' ⟨b, rfl, hb, n, rfl⟩; have Hb := hd hb; clear hb)
          | (refine wpList_fop _ rfl .sub _ _ _ _ rfl .f32 _ _ rfl rfl (by simp) ?_; intro r1 n1 h1; have H1 := hd (h1.trans (by rw [Hb.out, nrm_one]; rfl) : nrm .f32 r1 = restF xs); clear h1; have g1 := (order_gt0 H1.out).trans HG.out)
          | (go_at_call 16; refine (HF2.out _ (by first | exact below_drewN (Below.refl _ _) _ | exact below_drewN (below_drewN (Below.refl _ _) _) _)).mono ?_; rintro e w' ⟨rfl, k, rfl⟩)
          | (go_at_call 17; first | (refine (HI4.out _).mono ?_; rintro e w' ⟨rfl, k4, rfl⟩) | (refine (HI2.out _).mono ?_; rintro e w' ⟨rfl, k2, rfl⟩))
          | (refine wpList_fop _ rfl .mul _ _ _ _ rfl .f32 _ _ rfl rfl (by simp) ?_; intro r2 n2 h2; have H2 := hd h2; clear h2)
          | (refine wpList_fop _ rfl .add _ _ _ _ rfl .f32 _ _ rfl rfl (by simp) ?_; intro r3 n3 h3; have H3 := hd h3; clear h3)
          | (refine wpList_fop _ rfl .quo _ _ _ _ rfl .f32 _ _ rfl rfl (by simp) ?_; intro r4 n4 h4; have H4 := hd (h4.trans (by rw [H3.out, H2.out, H1.out, nrm_15, nrm_5]; rfl) : nrm .f32 r4 = cycF xs l); clear h4; have HI4 := hd (fun w => (by rw [← show nrm .f32 r4 = cycF xs l from H4.out] at HQ; exact HQ.out ▸ IsFinite_any r4 w : Calls Try.prog 17 #[.float .f32 r4] w (Draws (.bool false) w)))))
        go_ret2
        rw [H.out]
        exact ⟨_, rfl, nrm_zero, (by first | exact below_drewN (Below.refl _ _) _ | exact below_drewN (below_drewN (Below.refl _ _) _) _)⟩
    | true =>
      have H := hd (show M xs l = (cycF xs l, true) by rw [M, hf, hi, hg, hr, hq]; rfl)
      have HQ := hd hq
      rcases ge_t hg with ho | ho
      all_goals
        clear hi hf hg hr hq
        go_enter Try.func6, Try.ntmps6
        go_wp2_with (first
          | (go_at_call 15; refine HA.out.mono ?_; rintro e w' ⟨b, rfl, hb, n, rfl⟩; have Hb := hd hb; clear hb)
          | (refine wpList_fop _ rfl .sub _ _ _ _ rfl .f32 _ _ rfl rfl (by simp) ?_; intro r1 n1 h1; have H1 := hd (h1.trans (by rw [Hb.out, nrm_one]; rfl) : nrm .f32 r1 = restF xs); clear h1; have g1 := (order_gt0 H1.out).trans HG.out)
          | (go_at_call 16; refine (HF2.out _ (by first | exact below_drewN (Below.refl _ _) _ | exact below_drewN (below_drewN (Below.refl _ _) _) _)).mono ?_; rintro e w' ⟨rfl, k, rfl⟩)
          | (go_at_call 17; first | (refine (HI4.out _).mono ?_; rintro e w' ⟨rfl, k4, rfl⟩) | (refine (HI2.out _).mono ?_; rintro e w' ⟨rfl, k2, rfl⟩))
          | (refine wpList_fop _ rfl .mul _ _ _ _ rfl .f32 _ _ rfl rfl (by simp) ?_; intro r2 n2 h2; have H2 := hd h2; clear h2)
          | (refine wpList_fop _ rfl .add _ _ _ _ rfl .f32 _ _ rfl rfl (by simp) ?_; intro r3 n3 h3; have H3 := hd h3; clear h3)
          | (refine wpList_fop _ rfl .quo _ _ _ _ rfl .f32 _ _ rfl rfl (by simp) ?_; intro r4 n4 h4; have H4 := hd (h4.trans (by rw [H3.out, H2.out, H1.out, nrm_15, nrm_5]; rfl) : nrm .f32 r4 = cycF xs l); clear h4; have HI4 := hd (fun w => (by rw [← show nrm .f32 r4 = cycF xs l from H4.out] at HQ; exact HQ.out ▸ IsFinite_any r4 w : Calls Try.prog 17 #[.float .f32 r4] w (Draws (.bool true) w)))))
        go_ret2
        rw [H.out]
        exact ⟨_, rfl, H4.out, (by first | exact below_drewN (Below.refl _ _) _ | exact below_drewN (below_drewN (Below.refl _ _) _) _)⟩
end Go.Proofs.Ytpnbjfhcnjdohaa.CycI
