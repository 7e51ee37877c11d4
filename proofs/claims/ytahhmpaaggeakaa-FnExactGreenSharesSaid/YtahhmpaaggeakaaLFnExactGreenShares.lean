/- Whatever flows, lost time and cycle are given, the program's GreenShares and the reference's return the same numbers and the same bool, leave the flows alone and share no memory: the law returns true. No condition. -/
import Derived.Test.YtahhmpaaggeakaaRows
import Derived.Test.YtahhmpaaggeakaaFlows2
import Derived.Test.YtahhmpaaggeakaaWords
import Derived.Test.YtahhmpaaggeakaaOpen2
namespace Go.Proofs.Ytahhmpaaggeakaa.lFnExactGreenShares
open Go.ChangeShapes Go.WideShapes Go.ChangeAt Go.RowKit Go.Proofs.Ytahhmpaaggeakaa Plain
set_option linter.unusedVariables false
set_option linter.unusedSimpArgs false
attribute [local go_sem ↓] Go.wp_at_zero Go.wp_at_succ

/-- the green of flow k -/
def shareF (xs : List Nat) (l c : Nat) (k : Nat) : Option Nat := fop .quo .f32 (fop .mul .f32 (fop .sub .f32 (nrm .f32 c) (nrm .f32 l)) (nrm .f32 (xs.getD k 0))) (sumF xs xs.length)
def condB (xs : List Nat) (l c : Nat) : Bool := flowsB xs && ((finB (nrm .f32 l) && finB (nrm .f32 c)) && (geB l && (ge2 c l && gt0F (sumF xs xs.length))))
def M (xs : List Nat) (l c : Nat) : List Nat × Bool := if condB xs l c && ((List.range xs.length).map (shareF xs l c)).all finB then ((List.range xs.length).map fun k => (shareF xs l c k).getD 0, true) else ([], false)
theorem M_no {xs : List Nat} {l c : Nat} (h : condB xs l c = false) : M xs l c = ([], false) := by rw [M, h]; rfl
theorem M_inf {xs : List Nat} {l c : Nat} (h : ((List.range xs.length).map (shareF xs l c)).all finB = false) : M xs l c = ([], false) := by rw [M, h, Bool.and_false]; rfl
theorem M_yes {xs : List Nat} {l c : Nat} {rs : List Nat} (h1 : condB xs l c = true) (h : ((List.range xs.length).map (shareF xs l c)).all finB = true) (hr : rs.map (nrm .f32) = (List.range xs.length).map (shareF xs l c)) : M xs l c = (rs, true) := by
  rw [M, h1, h, bits_of hr (fun k hk => by
    rw [List.all_eq_true] at h
    exact h _ (List.mem_map.2 ⟨k, List.mem_range.2 hk, rfl⟩))]; rfl
theorem no_way {l c : Nat} (h1 : FloatKind.f32.format.order l 0 = some .gt ∨ FloatKind.f32.format.order l 0 = some .eq) (h2 : FloatKind.f32.format.order c l = some .gt ∨ FloatKind.f32.format.order c l = some .eq)
    (h : ((!FloatKind.f32.format.order l 0 == some Ordering.gt) = true ∧ (!FloatKind.f32.format.order l 0 == some Ordering.eq) = true) ∨ ((!FloatKind.f32.format.order c l == some Ordering.gt) = true ∧ (!FloatKind.f32.format.order c l == some Ordering.eq) = true)) : False := by
  rcases h1 with h1 | h1 <;> rcases h2 with h2 | h2 <;> simp [h1, h2] at h
theorem len_ok (xs : List Nat) (_ : ∀ x ∈ xs, (Lit.float .f32 x).wf = true) (h : xs.length ≤ 1048576) (l : Nat) (_ : (Lit.float .f32 l).wf = true) (c : Nat) (_ : (Lit.float .f32 c).wf = true) : (M xs l c).1.length ≤ 1048576 := by
  unfold M
  split
  · simpa using h
  · simp

set_option maxHeartbeats 4000000 in
set_option maxRecDepth 100000 in
theorem impl_any (w : World) (v0 : Value) (xs : List Nat) (i0 : ∀ x ∈ xs, (Lit.float .f32 x).wf = true) (b0 : xs.length ≤ 1048576) (s0 : Sl w 1 v0 xs.length (xs.map vf)) (l : Nat) (i1 : (Lit.float .f32 l).wf = true) (c : Nat) (i2 : (Lit.float .f32 c).wf = true) :
    Calls Try.prog 25 #[v0, .float .f32 l, .float .f32 c] w (OutL 33 1 (M xs l c).1.length ((M xs l c).1.map vf) (fun u => .tuple #[u, .bool (M xs l c).2]) w) := by
  clear i0 i1 i2
  have HA := hd (addUp_any v0 xs w s0)
  have HF := hd (fun w' h => areFlows_any v0 xs w' (s0.below h))
  have HI0 := fun (w' : World) (v : Value) (h : Sl w' 1 v 2 [.float .f32 l, .float .f32 c]) => areFinite_any v [l, c] w' h
  have e1 : (![l, c].any fun b => !finB (nrm .f32 b)) = (finB (nrm .f32 l) && finB (nrm .f32 c)) := by simp
  rw [e1] at HI0
  have HI : Hid (∀ (w' : World) (v : Value), Sl w' 1 v 2 [.float .f32 l, .float .f32 c] → _) := hd HI0
  clear HI0 e1
  obtain ⟨A, cap, rfl, hcap, hr⟩ := s0
  cases hf : flowsB xs with
  | false =>
    have H := hd (M_no (l := l) (c := c) (by rw [condB, hf]; rfl))
    have HF2 := hd (fun w' h => hf ▸ HF.out w' h)
    clear HF hf HI
    go_enter Try.func25, Try.ntmps25
    go_wp2_with (first
      | (go_at_call 74; refine HA.out.mono ?_; rintro e w' ⟨b, rfl, hb, n, rfl⟩; have Hb := hd hb; clear hb)
      | (go_at_call 75; refine (HF2.out _ (by first | exact below_drewN (Below.refl _ _) _ | exact below_drewN (below_drewN (Below.refl _ _) _) _)).mono ?_; rintro e w' ⟨rfl, k, rfl⟩)
      )
    go_ret2
    rw [H.out]
    exact ⟨_, rfl, World.ownsRow_nil _ _ _ _, (by first | exact below_drewN (Below.refl _ _) _ | exact below_drewN (below_drewN (Below.refl _ _) _) _ | exact below_drewN ((below_drewN (Below.refl _ _) _).alloc (Nat.le_refl _) _) _)⟩
  | true =>
    have HF2 := hd (fun w' h => hf ▸ HF.out w' h)
    clear HF
    cases hi : finB (nrm .f32 l) && finB (nrm .f32 c) with
    | false =>
      have H := hd (M_no (xs := xs) (by rw [condB, hf, hi]; rfl))
      have HI2 := hd (fun w' {v} h => hi ▸ HI.out w' v h)
      clear HI hi hf
      go_enter Try.func25, Try.ntmps25
      go_wp2_with (first
        | (go_at_call 74; refine HA.out.mono ?_; rintro e w' ⟨b, rfl, hb, n, rfl⟩; have Hb := hd hb; clear hb)
        | (go_at_call 75; refine (HF2.out _ (by first | exact below_drewN (Below.refl _ _) _ | exact below_drewN (below_drewN (Below.refl _ _) _) _)).mono ?_; rintro e w' ⟨rfl, k, rfl⟩)
        | (go_at_call 76; refine (HI2.out _ (sl_pair _ _ _ _)).mono ?_; rintro e w' ⟨rfl, k2, rfl⟩)
        )
      go_ret2
      rw [H.out]
      exact ⟨_, rfl, World.ownsRow_nil _ _ _ _, (by first | exact below_drewN (Below.refl _ _) _ | exact below_drewN (below_drewN (Below.refl _ _) _) _ | exact below_drewN ((below_drewN (Below.refl _ _) _).alloc (Nat.le_refl _) _) _)⟩
    | true =>
    have HI2 := hd (fun w' {v} h => hi ▸ HI.out w' v h)
    clear HI
    cases hg : geB l with
    | false =>
      have H := hd (M_no (xs := xs) (by rw [condB, hf, hi, hg]; rfl))
      rcases geB_f hg with ho | ho
      all_goals
        clear hi hf hg
        go_enter Try.func25, Try.ntmps25
        go_wp2_with (first
          | (go_at_call 74; refine HA.out.mono ?_; rintro e w' ⟨b, rfl, hb, n, rfl⟩; have Hb := hd hb; clear hb)
          | (go_at_call 75; refine (HF2.out _ (by first | exact below_drewN (Below.refl _ _) _ | exact below_drewN (below_drewN (Below.refl _ _) _) _)).mono ?_; rintro e w' ⟨rfl, k, rfl⟩)
          | (go_at_call 76; refine (HI2.out _ (sl_pair _ _ _ _)).mono ?_; rintro e w' ⟨rfl, k2, rfl⟩)
          )
        go_ret2
        rw [H.out]
        exact ⟨_, rfl, World.ownsRow_nil _ _ _ _, (by first | exact below_drewN (Below.refl _ _) _ | exact below_drewN (below_drewN (Below.refl _ _) _) _ | exact below_drewN ((below_drewN (Below.refl _ _) _).alloc (Nat.le_refl _) _) _)⟩
    | true =>
    have ho := geB_t hg
    cases hg2 : ge2 c l with
    | false =>
      have H := hd (M_no (xs := xs) (by rw [condB, hf, hi, hg, hg2]; rfl))
      rcases ge2_f hg2 with ho2 | ho2
      all_goals
        clear hi hf hg hg2
        go_enter Try.func25, Try.ntmps25
        go_wp2_with (first
          | (go_at_call 74; refine HA.out.mono ?_; rintro e w' ⟨b, rfl, hb, n, rfl⟩; have Hb := hd hb; clear hb)
          | (go_at_call 75; refine (HF2.out _ (by first | exact below_drewN (Below.refl _ _) _ | exact below_drewN (below_drewN (Below.refl _ _) _) _)).mono ?_; rintro e w' ⟨rfl, k, rfl⟩)
          | (go_at_call 76; refine (HI2.out _ (sl_pair _ _ _ _)).mono ?_; rintro e w' ⟨rfl, k2, rfl⟩)
          )
        go_ret2
        rw [H.out]
        exact ⟨_, rfl, World.ownsRow_nil _ _ _ _, (by first | exact below_drewN (Below.refl _ _) _ | exact below_drewN (below_drewN (Below.refl _ _) _) _ | exact below_drewN ((below_drewN (Below.refl _ _) _).alloc (Nat.le_refl _) _) _)⟩
    | true =>
    have ho2 := ge2_t hg2
    cases hr0 : gt0F (sumF xs xs.length) with
    | false =>
      have H := hd (M_no (xs := xs) (l := l) (c := c) (by rw [condB, hr0]; simp))
      have HG := hd hr0
      clear hi hf hg hg2 hr0
      go_enter Try.func25, Try.ntmps25
      go_wp2_with (first
        | (go_at_call 74; refine HA.out.mono ?_; rintro e w' ⟨b, rfl, hb, n, rfl⟩; have Hb := hd hb; have g1 := (order_gt0 hb).trans HG.out; clear hb)
        | (go_at_call 75; refine (HF2.out _ (by first | exact below_drewN (Below.refl _ _) _ | exact below_drewN (below_drewN (Below.refl _ _) _) _)).mono ?_; rintro e w' ⟨rfl, k, rfl⟩)
        | (go_at_call 76; refine (HI2.out _ (sl_pair _ _ _ _)).mono ?_; rintro e w' ⟨rfl, k2, rfl⟩)
        )
      go_ret2
      rw [H.out]
      exact ⟨_, rfl, World.ownsRow_nil _ _ _ _, (by first | exact below_drewN (Below.refl _ _) _ | exact below_drewN (below_drewN (Below.refl _ _) _) _ | exact below_drewN ((below_drewN (Below.refl _ _) _).alloc (Nat.le_refl _) _) _)⟩
    | true =>
      have HC := hd (show condB xs l c = true by rw [condB, hf, hi, hg, hg2, hr0]; rfl)
      have HG := hd hr0
      have h12 := (flows_all.1 hf).1
      have HY := hd (fun rs h hr => M_yes (xs := xs) (l := l) (c := c) (rs := rs) HC.out h hr)
      have HNO := hd (fun h => M_inf (xs := xs) (l := l) (c := c) h)
      clear hi hf hg hg2 hr0 HC
      generalize hn : xs.length = n at *
      have Hn := hd hn
      clear hn
      go_enter Try.func25, Try.ntmps25
      go_wp2_with (first
        | (go_at_call 74; refine HA.out.mono ?_; rintro e w' ⟨b, rfl, hb, n0, rfl⟩; have Hb := hd hb; have g1 := (order_gt0 hb).trans HG.out; clear hb)
        | (go_at_call 75; refine (HF2.out _ (by first | exact below_drewN (Below.refl _ _) _ | exact below_drewN (below_drewN (Below.refl _ _) _) _)).mono ?_; rintro e w' ⟨rfl, k, rfl⟩)
        | (go_at_call 76; refine (HI2.out _ (sl_pair _ _ _ _)).mono ?_; rintro e w' ⟨rfl, k2, rfl⟩)
        )
      skip
      · exact (no_way ho ho2 (by assumption)).elim
      · clear ho ho2
        rename_i hgood _ _
        clear hgood
        go_loopw [9, 42] (fun out ix wr => ∃ (k : Nat) (rs : List Nat), k ≤ n ∧ ix = .int .i64 k ∧ rs.length = k ∧ Hid (rs.map (nrm .f32) = (List.range k).map (shareF xs l c)) ∧ wr.ownsRow w.heap.size 33 1 out k (rs.map vf) ∧ Below w.heap.size w wr) (fun _ ix _ => n - (intOf ix).toNat)
        case atStart =>
          refine ⟨0, [], by omega, rfl, rfl, hd rfl, ?_, ?_⟩
          · have h := World.ownsRow_made (base := w.heap.size) (size := 1) (e := 33) (((w.drewN (n0 + k)).alloc (.cells #[.float .f32 l, .float .f32 c] 33)).drewN k2) #[] 0 (by simp) (by unfold maxLen; omega) rfl
            simpa using h
          · exact Below.alloc (below_drewN (Below.alloc (below_drewN (Below.refl _ _) _) (Nat.le_refl _) _) _) (by simp) _
        case round =>
          obtain ⟨k, rs, hk, rfl, hl, hrs, ho, hB⟩ := hrel
          by_cases hlt : k < n
          · obtain ⟨b1, off, rfl, hc⟩ := (hr.below hB).flt hlt
            have HS := hd (show shareF xs l c k = fop .quo .f32 (fop .mul .f32 (fop .sub .f32 (nrm .f32 c) (nrm .f32 l)) (nrm .f32 (xs.getD k 0))) (sumF xs n) by rw [← Hn.out]; rfl)
            generalize xs.getD k 0 = q at *
            have HO := hd ho; have HB := hd hB; have HL := hd hl
            clear hr ho hB hl
            go_wp2_with (first
              | (refine wpList_fop _ rfl .sub _ _ _ _ rfl .f32 _ _ rfl rfl (by simp) ?_; intro r2 n2 h2; have H2 := hd h2; clear h2)
              | (refine wpList_fop _ rfl .mul _ _ _ _ rfl .f32 _ _ rfl rfl (by simp) ?_; intro r3 n3 h3; have H3 := hd h3; clear h3)
              | (refine wpList_fop _ rfl .quo _ _ _ _ rfl .f32 _ _ rfl rfl (by simp) ?_; intro r4 n4 h4; have H4 := hd h4; clear h4)
              | (at_builtin; go_must (refine wpList_app_float _ _ _ rfl _ _ rfl w.heap.size k _ _ rfl (own_more HO.out) rfl _ rfl (by simp) (by omega) (Nat.le_trans HB.out.size (by simp)) ?_); intro v' w1 ho1 hg1 hap))
            go_roundw
            case rel =>
              refine ⟨k + 1, rs ++ [r4], by omega, by go_num, by simp [HL.out], hd (map_snoc hrs.out (by rw [H4.out, H3.out, H2.out, show nrm .f32 b = _ from Hb.out, HS.out])), ?_, below_row hg1 (below_more HB.out) (own_row HO.out (Nat.le_refl _))⟩
              rw [List.map_append]; exact ho1
            case measure => simp [intOf]; omega
          · have e : k = n := by omega
            subst e
            have HFN := hd (fun w' h => areFinite_any u9 rs w' (hl ▸ h))
            have e2 := any_nrm hrs.out
            have HO := hd ho; have HB := hd hB; have HL := hd hl
            clear ho hB hl hr
            cases hq : ((List.range k).map (shareF xs l c)).all finB with
            | false =>
              have H := hd (HNO.out hq)
              have HF3 := hd (fun w' h => (e2.trans hq) ▸ HFN.out w' h)
              clear HFN e2 hq
              go_wp2_with (go_at_call 76; refine (HF3.out _ (own_sl HO.out (size_le (by omega)))).mono ?_; rintro e w' ⟨rfl, k3, rfl⟩)
              go_ret2
              rw [H.out]
              exact ⟨_, rfl, World.ownsRow_nil _ _ _ _, below_more HB.out⟩
            | true =>
              have H := hd (HY.out rs hq hrs.out)
              have HF3 := hd (fun w' h => (e2.trans hq) ▸ HFN.out w' h)
              clear HFN e2 hq
              go_wp2_with (go_at_call 76; refine (HF3.out _ (own_sl HO.out (size_le (by omega)))).mono ?_; rintro e w' ⟨rfl, k3, rfl⟩)
              go_ret2
              rw [H.out]
              refine ⟨_, rfl, ?_, below_more HB.out⟩
              show (World.drewN _ _).ownsRow _ _ _ _ rs.length _
              rw [HL.out]
              exact own_more HO.out

set_option maxHeartbeats 4000000 in
set_option maxRecDepth 100000 in
theorem spec_any (w : World) (v0 : Value) (xs : List Nat) (i0 : ∀ x ∈ xs, (Lit.float .f32 x).wf = true) (b0 : xs.length ≤ 1048576) (s0 : Sl w 1 v0 xs.length (xs.map vf)) (l : Nat) (i1 : (Lit.float .f32 l).wf = true) (c : Nat) (i2 : (Lit.float .f32 c).wf = true) :
    Calls Try.prog 23 #[v0, .float .f32 l, .float .f32 c] w (OutL 33 1 (M xs l c).1.length ((M xs l c).1.map vf) (fun u => .tuple #[u, .bool (M xs l c).2]) w) := by
  clear i0 i1 i2
  have HF0 := l05Flows_any v0 xs w s0
  obtain ⟨A, cap, rfl, hcap, hr⟩ := s0
  cases hf : flowsB xs with
  | false =>
    have H := hd (M_no (l := l) (c := c) (by rw [condB, hf]; rfl))
    rw [hf] at HF0
    have HF := hd HF0
    clear HF0 hf
    go_enter Try.func23, Try.ntmps23
    go_wp2_with (first
      | (go_at_call 70; refine HF.out.mono ?_; rintro e w' ⟨b, rfl, hb, n0, rfl⟩; clear hb)
      )
    go_ret2
    rw [H.out]
    exact ⟨_, rfl, World.ownsRow_nil _ _ _ _, (by first | exact below_drewN (Below.refl _ _) _ | exact below_drewN (below_drewN (Below.refl _ _) _) _)⟩
  | true =>
    rw [hf] at HF0
    have HF := hd HF0
    clear HF0
    cases hl : finB (nrm .f32 l) && geB l with
    | false =>
      have H := hd (M_no (xs := xs) (l := l) (c := c) (by
        rw [condB]
        cases h1 : finB (nrm .f32 l) with
        | false => simp
        | true => rw [h1, Bool.true_and] at hl; simp [hl]))
      have HL0 := hd (fun w => l02Least_f l w hl)
      clear hf hl
      go_enter Try.func23, Try.ntmps23
      go_wp2_with (first
        | (go_at_call 70; refine HF.out.mono ?_; rintro e w' ⟨b, rfl, hb, n0, rfl⟩; have Hb := hd (hb rfl); clear hb)
        | (go_at_call 71; refine (HL0.out _).mono ?_; rintro e w' ⟨rfl, k2, rfl⟩)
        )
      go_ret2
      rw [H.out]
      exact ⟨_, rfl, World.ownsRow_nil _ _ _ _, (by first | exact below_drewN (Below.refl _ _) _ | exact below_drewN (below_drewN (Below.refl _ _) _) _)⟩
    | true =>
    have HL0 := hd (fun w => l02Least_t l w hl)
    have hl2 := hl
    rw [Bool.and_eq_true] at hl2
    cases hc : finB (nrm .f32 c) with
    | false =>
      have H := hd (M_no (xs := xs) (l := l) (c := c) (by rw [condB, hc]; simp))
      have HC0 := hd (fun w => hc ▸ l01Finite_any c w)
      clear hf hl hc hl2
      go_enter Try.func23, Try.ntmps23
      go_wp2_with (first
        | (go_at_call 70; refine HF.out.mono ?_; rintro e w' ⟨b, rfl, hb, n0, rfl⟩; have Hb := hd (hb rfl); clear hb)
        | (go_at_call 71; refine (HL0.out _).mono ?_; rintro e w' ⟨rfl, k2, rfl⟩)
        | (go_at_call 72; refine (HC0.out _).mono ?_; rintro e w' ⟨rfl, k4, rfl⟩)
        )
      go_ret2
      rw [H.out]
      exact ⟨_, rfl, World.ownsRow_nil _ _ _ _, (by first | exact below_drewN (Below.refl _ _) _ | exact below_drewN (below_drewN (Below.refl _ _) _) _)⟩
    | true =>
    have HC0 := hd (fun w => hc ▸ l01Finite_any c w)
    cases hg2 : ge2 c l with
    | false =>
      have H := hd (M_no (xs := xs) (l := l) (c := c) (by rw [condB, hg2]; simp))
      have ho2 : FloatKind.f32.format.order c l = some .lt := by
        rcases ge2_f hg2 with h | h
        · exact absurd h (order_some (finB_num hc) (finB_num hl2.1))
        · exact h
      clear hf hl hc hl2 hg2
      go_enter Try.func23, Try.ntmps23
      go_wp2_with (first
        | (go_at_call 70; refine HF.out.mono ?_; rintro e w' ⟨b, rfl, hb, n0, rfl⟩; have Hb := hd (hb rfl); clear hb)
        | (go_at_call 71; refine (HL0.out _).mono ?_; rintro e w' ⟨rfl, k2, rfl⟩)
        | (go_at_call 72; refine (HC0.out _).mono ?_; rintro e w' ⟨rfl, k4, rfl⟩)
        )
      go_ret2
      rw [H.out]
      exact ⟨_, rfl, World.ownsRow_nil _ _ _ _, (by first | exact below_drewN (Below.refl _ _) _ | exact below_drewN (below_drewN (Below.refl _ _) _) _)⟩
    | true =>
    cases hr0 : gt0F (sumF xs xs.length) with
    | false =>
      have H := hd (M_no (xs := xs) (l := l) (c := c) (by rw [condB, hr0]; simp))
      have HG := hd hr0
      rcases ge2_t hg2 with ho2 | ho2
      all_goals
        clear hf hl hc hl2 hg2 hr0
        go_enter Try.func23, Try.ntmps23
        go_wp2_with (first
          | (go_at_call 70; refine HF.out.mono ?_; rintro e w' ⟨b, rfl, hb, n0, rfl⟩; have Hb := hd (hb rfl); have g1 := (order_gt0 (hb rfl)).trans HG.out; clear hb)
          | (go_at_call 71; refine (HL0.out _).mono ?_; rintro e w' ⟨rfl, k2, rfl⟩)
          | (go_at_call 72; refine (HC0.out _).mono ?_; rintro e w' ⟨rfl, k4, rfl⟩)
          )
        go_ret2
        rw [H.out]
        exact ⟨_, rfl, World.ownsRow_nil _ _ _ _, (by first | exact below_drewN (Below.refl _ _) _ | exact below_drewN (below_drewN (Below.refl _ _) _) _)⟩
    | true =>
      have HC := hd (show condB xs l c = true by rw [condB, hf, hl2.1, hl2.2, hc, hg2, hr0]; rfl)
      have HG := hd hr0
      have h12 := (flows_all.1 hf).1
      have HY := hd (fun rs h hr => M_yes (xs := xs) (l := l) (c := c) (rs := rs) HC.out h hr)
      have HNO := hd (fun h => M_inf (xs := xs) (l := l) (c := c) h)
      have ho2s := ge2_t hg2
      clear hf hl hc hl2 hg2 hr0 HC
      generalize hn : xs.length = n at *
      have Hn := hd hn
      clear hn
      rcases ho2s with ho2 | ho2
      all_goals
        go_enter Try.func23, Try.ntmps23
        go_wp2_with (first
          | (go_at_call 70; refine HF.out.mono ?_; rintro e w' ⟨b, rfl, hb, n0, rfl⟩; have Hb := hd (hb rfl); have g1 := (order_gt0 (hb rfl)).trans HG.out; clear hb)
          | (go_at_call 71; refine (HL0.out _).mono ?_; rintro e w' ⟨rfl, k2, rfl⟩)
          | (go_at_call 72; refine (HC0.out _).mono ?_; rintro e w' ⟨rfl, k4, rfl⟩)
          )
        clear ho2
        go_loopw [10, 42] (fun out ix wr => ∃ (k : Nat) (rs : List Nat), k ≤ n ∧ ix = .int .i64 k ∧ rs.length = k ∧ Hid (rs.map (nrm .f32) = (List.range k).map (shareF xs l c)) ∧ wr.ownsRow w.heap.size 33 1 out k (rs.map vf) ∧ Below w.heap.size w wr) (fun _ ix _ => n - (intOf ix).toNat)
        case atStart =>
          refine ⟨0, [], by omega, rfl, rfl, hd rfl, ?_, ?_⟩
          · have h := World.ownsRow_made (base := w.heap.size) (size := 1) (e := 33) (w.drewN (n0 + k2 + k4)) #[] 0 (by simp) (by unfold maxLen; omega) rfl
            simpa using h
          · exact Below.alloc (below_drewN (Below.refl _ _) _) (Nat.le_refl _) _
        case round =>
          obtain ⟨k, rs, hk, rfl, hl, hrs, ho, hB⟩ := hrel
          by_cases hlt : k < n
          · obtain ⟨b1, off, rfl, hc⟩ := (hr.below hB).flt hlt
            have HS := hd (show shareF xs l c k = fop .quo .f32 (fop .mul .f32 (fop .sub .f32 (nrm .f32 c) (nrm .f32 l)) (nrm .f32 (xs.getD k 0))) (sumF xs n) by rw [← Hn.out]; rfl)
            generalize xs.getD k 0 = q at *
            have HO := hd ho; have HB := hd hB; have HL := hd hl
            clear hr ho hB hl
            go_wp2_with (first
              | (refine wpList_fop _ rfl .sub _ _ _ _ rfl .f32 _ _ rfl rfl (by simp) ?_; intro r2 n2 h2; have H2 := hd h2; clear h2)
              | (refine wpList_fop _ rfl .mul _ _ _ _ rfl .f32 _ _ rfl rfl (by simp) ?_; intro r3 n3 h3; have H3 := hd h3; clear h3)
              | (refine wpList_fop _ rfl .quo _ _ _ _ rfl .f32 _ _ rfl rfl (by simp) ?_; intro r4 n4 h4; have H4 := hd h4; clear h4)
              | (at_builtin; go_must (refine wpList_app_float _ _ _ rfl _ _ rfl w.heap.size k _ _ rfl (own_more HO.out) rfl _ rfl (by simp) (by omega) (Nat.le_trans HB.out.size (by simp)) ?_); intro v' w1 ho1 hg1 hap))
            go_roundw
            case rel =>
              refine ⟨k + 1, rs ++ [r4], by omega, by go_num, by simp [HL.out], hd (map_snoc hrs.out (by rw [H4.out, H3.out, H2.out, show nrm .f32 b = _ from Hb.out, HS.out])), ?_, below_row hg1 (below_more HB.out) (own_row HO.out (Nat.le_refl _))⟩
              rw [List.map_append]; exact ho1
            case measure => simp [intOf]; omega
          · have e : k = n := by omega
            subst e
            have HFN := hd (fun w' h => l02Finite_any u10 rs w' (hl ▸ h))
            have e2 := any_nrm hrs.out
            have HO := hd ho; have HB := hd hB; have HL := hd hl
            clear ho hB hl hr
            cases hq : ((List.range k).map (shareF xs l c)).all finB with
            | false =>
              have H := hd (HNO.out hq)
              have HF3 := hd (fun w' h => (e2.trans hq) ▸ HFN.out w' h)
              clear HFN e2 hq
              go_wp2_with (go_at_call 73; refine (HF3.out _ (own_sl HO.out (size_le (by omega)))).mono ?_; rintro e w' ⟨rfl, k3, rfl⟩)
              go_ret2
              rw [H.out]
              exact ⟨_, rfl, World.ownsRow_nil _ _ _ _, below_more HB.out⟩
            | true =>
              have H := hd (HY.out rs hq hrs.out)
              have HF3 := hd (fun w' h => (e2.trans hq) ▸ HFN.out w' h)
              clear HFN e2 hq
              go_wp2_with (go_at_call 73; refine (HF3.out _ (own_sl HO.out (size_le (by omega)))).mono ?_; rintro e w' ⟨rfl, k3, rfl⟩)
              go_ret2
              rw [H.out]
              refine ⟨_, rfl, ?_, below_more HB.out⟩
              show (World.drewN _ _).ownsRow _ _ _ _ rs.length _
              rw [HL.out]
              exact own_more HO.out

set_option maxHeartbeats 2000000 in
set_option maxRecDepth 100000 in
theorem walk (w : World) (v0 : Value) (x0 : List Nat) (i0 : ∀ x ∈ x0, (Lit.float .f32 x).wf = true) (s0 : Sl w 1 v0 x0.length (x0.map vf)) (a1 : Nat) (i1 : (Lit.float .f32 a1).wf = true) (a2 : Nat) (i2 : (Lit.float .f32 a2).wf = true) :
    Calls Try.prog 5 #[v0, .float .f32 a1, .float .f32 a2] w fun e w' => e = .returned (.bool true) ∧ Below w.heap.size w w' := by
  obtain ⟨A0, cap0, hw0, _, hr0⟩ := id s0
  have hv0 := hd hw0; clear hw0
  have hm0 := hr0.2.1
  by_cases b0 : x0.length ≤ 1048576
  rotate_left
  · have e0 := hv0.out; subst e0
    unfold maxLen at hm0
    have hx' : ¬ ((x0.length : Int) ≤ 1048576) := by omega
    go_enter Try.func5, Try.ntmps5
    go_wp2
    go_ret
    exact ⟨rfl, Below.refl _ _⟩
  have hx0 : (x0.length : Int) ≤ 1048576 := by omega
  have z0 := size_le b0
  have bg := len_ok x0 i0 b0 a1 i1 a2 i2
  have zg := size_le bg
  have hB := Below.refl w.heap.size w
  clear hr0 hm0
  have e0 := hv0.out; subst e0; clear hv0
  go_enter Try.func5, Try.ntmps5
  go_wp2_with fail
  refine (toFloat32S_any _ x0 _ (s0.below hB) b0).mono ?_; rintro e w1 ⟨s0_, rfl, ho_s0_, hb⟩
  replace ho_s0_ := own_mono ho_s0_ hB.size
  replace hB := below_tr hb hB
  clear hb
  go_wp2_with fail
  refine (spec_any _ _ x0 i0 b0 (own_sl ho_s0_ z0) a1 i1 a2 i2).mono ?_; rintro e w2 ⟨w0, rfl, ho_w0, hb⟩
  have d_s0__w0 := dj_new ho_s0_ ho_w0
  replace ho_s0_ := own_below ho_s0_ hb
  replace ho_w0 := own_mono ho_w0 hB.size
  replace hB := below_tr hb hB
  clear hb
  clear ho_s0_ d_s0__w0
  go_wp2_with fail
  refine (toFloat32S_any _ x0 _ (s0.below hB) b0).mono ?_; rintro e w3 ⟨x0_, rfl, ho_x0_, hb⟩
  have d_w0_x0_ := dj_new ho_w0 ho_x0_
  replace ho_w0 := own_below ho_w0 hb
  replace ho_x0_ := own_mono ho_x0_ hB.size
  replace hB := below_tr hb hB
  clear hb
  go_wp2_with fail
  refine (impl_any _ _ x0 i0 b0 (own_sl ho_x0_ z0) a1 i1 a2 i2).mono ?_; rintro e w4 ⟨g0, rfl, ho_g0, hb⟩
  have d_w0_g0 := dj_new ho_w0 ho_g0
  have d_x0__g0 := dj_new ho_x0_ ho_g0
  replace ho_w0 := own_below ho_w0 hb
  replace ho_x0_ := own_below ho_x0_ hb
  replace ho_g0 := own_mono ho_g0 hB.size
  replace hB := below_tr hb hB
  clear hb
  go_wp2_with fail
  refine (eqFloat32S_t _ _ _ _ _ (own_sl ho_g0 zg) (own_sl ho_w0 zg) rfl).mono ?_; rintro e w5 ⟨rfl, hb⟩
  replace ho_w0 := own_below ho_w0 hb
  replace ho_x0_ := own_below ho_x0_ hb
  replace ho_g0 := own_below ho_g0 hb
  replace hB := below_tr hb hB
  clear hb
  go_wp2_with fail
  refine (toFloat32S_any _ x0 _ (s0.below hB) b0).mono ?_; rintro e w6 ⟨c0_, rfl, ho_c0_, hb⟩
  have d_w0_c0_ := dj_new ho_w0 ho_c0_
  have d_x0__c0_ := dj_new ho_x0_ ho_c0_
  have d_g0_c0_ := dj_new ho_g0 ho_c0_
  replace ho_w0 := own_below ho_w0 hb
  replace ho_x0_ := own_below ho_x0_ hb
  replace ho_g0 := own_below ho_g0 hb
  replace ho_c0_ := own_mono ho_c0_ hB.size
  replace hB := below_tr hb hB
  clear hb
  go_wp2_with fail
  refine (eqFloat32S_t _ _ x0 x0 _ (own_sl ho_x0_ z0) (own_sl ho_c0_ z0) rfl).mono ?_; rintro e w7 ⟨rfl, hb⟩
  replace ho_w0 := own_below ho_w0 hb
  replace ho_x0_ := own_below ho_x0_ hb
  replace ho_g0 := own_below ho_g0 hb
  replace ho_c0_ := own_below ho_c0_ hb
  replace hB := below_tr hb hB
  clear hb
  clear ho_c0_ d_w0_c0_ d_x0__c0_ d_g0_c0_
  go_wp2_with fail
  have hrow := own_row ho_x0_ (Nat.le_refl _)
  refine (markFloat32S_any _ _ _ _ (1) _ ho_x0_ b0 (by omega) (by omega)).mono ?_; rintro e w8 ⟨rfl, ho', hg⟩
  replace ho_w0 := own_kept ho_w0 hg d_w0_x0_
  replace ho_g0 := own_kept ho_g0 hg (dj_symm d_x0__g0)
  replace ho_x0_ := ho'
  replace hB := below_row hg hB hrow
  clear hg hrow ho'
  clear ho_x0_ d_w0_x0_ d_x0__g0
  go_wp2_with fail
  refine (eqFloat32S_t _ _ _ _ _ (own_sl ho_g0 zg) (own_sl ho_w0 zg) rfl).mono ?_; rintro e w9 ⟨rfl, hb⟩
  replace ho_w0 := own_below ho_w0 hb
  replace ho_g0 := own_below ho_g0 hb
  replace hB := below_tr hb hB
  clear hb
  go_wp2_with fail
  have hrow := own_row ho_g0 (Nat.le_refl _)
  refine (markFloat32S_any _ _ _ _ 1 _ ho_g0 bg (by omega) (by omega)).mono ?_; rintro e w10 ⟨rfl, ho', hg⟩
  replace ho_w0 := own_kept ho_w0 hg d_w0_g0
  replace ho_g0 := ho'
  replace hB := below_row hg hB hrow
  clear hg hrow ho'
  go_wp2_with fail
  refine (heldFloat32S_b _ _ 1 _ (own_sl ho_g0 zg) bg (by omega) (by omega)).mono ?_; rintro e w11 ⟨rfl, hb⟩
  replace ho_w0 := own_below ho_w0 hb
  replace ho_g0 := own_below ho_g0 hb
  replace hB := below_tr hb hB
  clear hb
  go_wp2_with fail
  refine (toFloat32S_any _ x0 _ (s0.below hB) b0).mono ?_; rintro e w12 ⟨t0_, rfl, ho_t0_, hb⟩
  have d_w0_t0_ := dj_new ho_w0 ho_t0_
  have d_g0_t0_ := dj_new ho_g0 ho_t0_
  replace ho_w0 := own_below ho_w0 hb
  replace ho_g0 := own_below ho_g0 hb
  replace ho_t0_ := own_mono ho_t0_ hB.size
  replace hB := below_tr hb hB
  clear hb
  go_wp2_with fail
  refine (impl_any _ _ x0 i0 b0 (own_sl ho_t0_ z0) a1 i1 a2 i2).mono ?_; rintro e w13 ⟨h0, rfl, ho_h0, hb⟩
  have d_w0_h0 := dj_new ho_w0 ho_h0
  have d_g0_h0 := dj_new ho_g0 ho_h0
  have d_t0__h0 := dj_new ho_t0_ ho_h0
  replace ho_w0 := own_below ho_w0 hb
  replace ho_g0 := own_below ho_g0 hb
  replace ho_t0_ := own_below ho_t0_ hb
  replace ho_h0 := own_mono ho_h0 hB.size
  replace hB := below_tr hb hB
  clear hb
  go_wp2_with fail
  refine (eqFloat32S_t _ _ _ _ _ (own_sl ho_h0 zg) (own_sl ho_w0 zg) rfl).mono ?_; rintro e w14 ⟨rfl, hb⟩
  replace ho_w0 := own_below ho_w0 hb
  replace ho_g0 := own_below ho_g0 hb
  replace ho_t0_ := own_below ho_t0_ hb
  replace ho_h0 := own_below ho_h0 hb
  replace hB := below_tr hb hB
  clear hb
  go_wp2_with fail
  refine (heldFloat32S_b _ _ 1 _ (own_sl ho_g0 zg) bg (by omega) (by omega)).mono ?_; rintro e w15 ⟨rfl, hb⟩
  replace ho_w0 := own_below ho_w0 hb
  replace ho_g0 := own_below ho_g0 hb
  replace ho_t0_ := own_below ho_t0_ hb
  replace ho_h0 := own_below ho_h0 hb
  replace hB := below_tr hb hB
  clear hb
  go_wp2_with fail
  go_ret
  exact ⟨rfl, hB⟩

theorem own : ownKnob Try.prog.godebug = none := by kernel_rfl
theorem laidOut : laidOutB Try.prog = true := by kernel_rfl

set_option maxRecDepth 100000 in
theorem lifted (os : Os) (started : os.Started) (H : Type) (enc : TypeId × Value → H) :
    ReturnsInHanded {} Try.checked os 5 .any (Rows.fnExactGreenSharesSpec.pre6 enc Try.prog Try.f5 Rows.fnExactGreenSharesRow.domain false) (Rows.fnExactGreenSharesSpec.post enc Try.prog Try.f5 false true false false) := by
  refine returnsInHanded_of_change (C := Try.checked) own started (by as_aux_lemma => kernel_rfl) Try.func5
    (ChangeSpec.witness6 (enc := enc) (C := Try.checked) false ⟨#[], #[.slice none 0 0, .float .f32 0, .float .f32 0], []⟩ 8 (by as_aux_lemma => kernel_rfl) (by as_aux_lemma => kernel_rfl) (by as_aux_lemma => kernel_rfl) (by as_aux_lemma => kernel_rfl)) ?_
  intro W base args ds gs before hval0 hW hcnd _
  have hval : ∀ (j : Nat) t v, Try.f5.params[j]? = some t → args[j]? = some v → Value.okWide Try.prog W .any base t v := hval0
  have hW' := hW
  obtain ⟨p, q, hA0, hV, rfl, hfz, hnd⟩ := hW
  have hA : DataW.TrodAll enc Try.prog W 0 (fun _ => true) true Try.f5.params.toList args.toList ds p := hA0
  rw [Try.params5] at hA hval
  obtain ⟨v0, vs0, d0, ds0, p0, q0, hargs, rfl, rfl, h0, r0⟩ := trodAll_cons hA
  obtain ⟨v1, vs1, d1, ds1, p1, q1, rfl, rfl, rfl, h1, r1⟩ := trodAll_cons r0
  obtain ⟨v2, vs2, d2, ds2, p2, q2, rfl, rfl, rfl, h2, r2⟩ := trodAll_cons r1
  obtain ⟨rfl, rfl, rfl⟩ := trodAll_nil r2
  obtain rfl : args = #[v0, v1, v2] := by cases args; simp_all
  obtain ⟨rfl, rfl⟩ := trodVars_none hV
  have k0 := h0
  have lt0 : ∀ x ∈ p0, x.block < W.heap.size := by obtain ⟨m, hm⟩ := k0; exact DataW.trod_lt m _ _ _ hm
  obtain ⟨s0, len0, cap0, rfl⟩ := okWide_slice Try.underlying32 (hval 0 32 v0 rfl rfl)
  obtain ⟨x0, _, i0, w0⟩ := arg_floats Try.underlying32 Try.underlying33 (by as_aux_lemma => kernel_rfl) h0
  have k1 := h1
  have lt1 : ∀ x ∈ p1, x.block < W.heap.size := by obtain ⟨m, hm⟩ := k1; exact DataW.trod_lt m _ _ _ hm
  obtain ⟨a1, rfl, _, _, w1⟩ := open_float Try.underlying33 (hval 1 33 v1 rfl rfl) h1
  have k2 := h2
  have lt2 : ∀ x ∈ p2, x.block < W.heap.size := by obtain ⟨m, hm⟩ := k2; exact DataW.trod_lt m _ _ _ hm
  obtain ⟨a2, rfl, _, _, w2⟩ := open_float Try.underlying33 (hval 2 33 v2 rfl rfl) h2
  clear hA0 hval0
  refine (walk W _ x0 i0 w0 a1 w1 a2 w2).mono fun e W' ⟨he, bel⟩ => ?_
  subst he
  exact ⟨_, rfl, _, _, _, [], _, [], hW', trodAll_mk1 (shut_bool Try.underlying4 _), (trodAll_cons_mk (Below.trod laidOut (by as_aux_lemma => kernel_rfl) (of_decide_eq_true (by as_aux_lemma => kernel_rfl)) k0 bel lt0) (trodAll_cons_mk (Below.trod laidOut (by as_aux_lemma => kernel_rfl) (of_decide_eq_true (by as_aux_lemma => kernel_rfl)) k1 bel lt1) (trodAll_cons_mk (Below.trod laidOut (by as_aux_lemma => kernel_rfl) (of_decide_eq_true (by as_aux_lemma => kernel_rfl)) k2 bel lt2) (trodAll_mk0)))), rfl, bel.frame _, fun h => by cases h⟩

/-- The given statement. -/
theorem proved : Rows.FnExactGreenSharesSaid :=
  OpenClaim.holds_of_wide 5 Try.f5 rfl rfl rfl rfl rfl rfl rfl ⟨rfl, rfl, rfl, rfl, rfl⟩ rfl rfl rfl rfl rfl (by kernel_rfl) Try.func5 (by kernel_rfl)
    (of_decide_eq_true (by kernel_rfl)) (by unfold Func.isWrapper; first | (rw [if_pos (by decide +kernel)]; kernel_rfl) | (rw [if_neg (by decide +kernel)]; exact ⟨rfl, rfl⟩))
    (fun os started H enc _ => lifted os started H enc)
#print axioms proved

end Go.Proofs.Ytahhmpaaggeakaa.lFnExactGreenShares
