/- GreenShares of the program: a contract (cut from the law's text). -/
import Derived.Test.YtpnbjfhcnjdohaaProg
import Derived.Test.YtpnbjfhcnjdohaaFlows2
import Derived.Test.YtpnbjfhcnjdohaaWords
namespace Go.Proofs.Ytpnbjfhcnjdohaa.ShaI
open Go.RowKit Go.Proofs.Ytpnbjfhcnjdohaa Plain
set_option linter.unusedVariables false
set_option linter.unusedSimpArgs false
attribute [local go_sem ↓] Go.wp_at_zero Go.wp_at_succ

/-- the green of flow k -/
def shareF (xs : List Nat) (l c : Nat) (k : Nat) : Option Nat := fop .quo .f32 (fop .mul .f32 (fop .sub .f32 (nrm .f32 c) (nrm .f32 l)) (nrm .f32 (xs.getD k 0))) (sumF xs xs.length)
def condB (xs : List Nat) (l c : Nat) : Bool := flowsB xs && ((finB (nrm .f32 l) && finB (nrm .f32 c)) && (geB l && (ge2 c l && gt0F (sumF xs xs.length))))
def M (xs : List Nat) (l c : Nat) : List Nat × Bool := if condB xs l c && ((List.range xs.length).map (shareF xs l c)).all finB then ((List.range xs.length).map fun k => (shareF xs l c k).getD 0, true) else ([], false)
theorem M_no {xs : List Nat} {l c : Nat} (h : condB xs l c = false) : M xs l c = ([], false) := by rw [M, h]; rfl
theorem M_inf {xs : List Nat} {l c : Nat} (h : ((List.range xs.length).map (shareF xs l c)).all finB = false) : M xs l c = ([], false) := by rw [M, h, Bool.and_false]; rfl
theorem M_yes {xs : List Nat} {l c : Nat} {rs : List Nat} (h1 : condB xs l c = true) (h : ((List.range xs.length).map (shareF xs l c)).all finB = true) (hr : rs.map (nrm .f32) = (List.range xs.length).map (shareF xs l c)) : M xs l c = (rs, true) := by
  rw [M, h1, h, bits_of hr (fun k hk => by
    rw [List.all_eq_true] at h
    exact h _ (List.mem_map.2 ⟨k, List.mem_range.2 hk, rfl⟩))]; rfl
theorem no_way {l c : Nat} (h1 : FloatKind.f32.format.order l 0 = some .gt ∨ FloatKind.f32.format.order l 0 = some .eq) (h2 : FloatKind.f32.format.order c l = some .gt ∨ FloatKind.f32.format.order c l = some .eq)
    (h : ((!FloatKind.f32.format.order l 0 == some Ordering.gt) = true ∧ (!FloatKind.f32.format.order l 0 == some Ordering.eq) = true) ∨ ((!FloatKind.f32.format.order c l == some Ordering.gt) = true ∧ (!FloatKind.f32.format.order c l == some Ordering.eq) = true)) : False := by
  rcases h1 with h1 | h1 <;> rcases h2 with h2 | h2 <;> simp [h1, h2] at h
theorem len_ok (xs : List Nat) (_ : ∀ x ∈ xs, (Lit.float .f32 x).wf = true) (h : xs.length ≤ 1048576) (l : Nat) (_ : (Lit.float .f32 l).wf = true) (c : Nat) (_ : (Lit.float .f32 c).wf = true) : (M xs l c).1.length ≤ 1048576 := by
  unfold M
  split
  · simpa using h
  · simp

set_option maxHeartbeats 4000000 in
set_option maxRecDepth 100000 in
theorem impl_any (w : World) (v0 : Value) (xs : List Nat) (i0 : ∀ x ∈ xs, (Lit.float .f32 x).wf = true) (b0 : xs.length ≤ 1048576) (s0 : Sl w 1 v0 xs.length (xs.map vf)) (l : Nat) (i1 : (Lit.float .f32 l).wf = true) (c : Nat) (i2 : (Lit.float .f32 c).wf = true) :
    Calls Try.prog 7 #[v0, .float .f32 l, .float .f32 c] w (OutL 27 1 (M xs l c).1.length ((M xs l c).1.map vf) (fun u => .tuple #[u, .bool (M xs l c).2]) w) := by
  clear i0 i1 i2
  have HA := hd (addUp_any v0 xs w s0)
  have HF := hd (fun w' h => areFlows_any v0 xs w' (s0.below h))
  have HI0 := fun (w' : World) (v : Value) (h : Sl w' 1 v 2 [.float .f32 l, .float .f32 c]) => areFinite_any v [l, c] w' h
  have e1 : (![l, c].any fun b => !finB (nrm .f32 b)) = (finB (nrm .f32 l) && finB (nrm .f32 c)) := by simp
  rw [e1] at HI0
  have HI : Hid (∀ (w' : World) (v : Value), Sl w' 1 v 2 [.float .f32 l, .float .f32 c] → _) := hd HI0
  clear HI0 e1
  obtain ⟨A, cap, rfl, hcap, hr⟩ := s0
  cases hf : flowsB xs with
  | false =>
    have H := hd (M_no (l := l) (c := c) (by rw [condB, hf]; rfl))
    have HF2 := hd (fun w' h => hf ▸ HF.out w' h)
    clear HF hf HI
    go_enter Try.func7, Try.ntmps7
    go_wp2_with (first
      | (go_at_call 15; refine HA.out.mono ?_; rintro e w' ⟨b, rfl, hb, n, rfl⟩; have Hb := hd hb; clear hb)
      | (go_at_call 16; refine (HF2.out _ (by first | exact below_drewN (Below.refl _ _) _ | exact below_drewN (below_drewN (Below.refl _ _) _) _)).mono ?_; rintro e w' ⟨rfl, k, rfl⟩)
      )
    go_ret2
    rw [H.out]
    exact ⟨_, rfl, World.ownsRow_nil _ _ _ _, (by first | exact below_drewN (Below.refl _ _) _ | exact below_drewN (below_drewN (Below.refl _ _) _) _ | exact below_drewN ((below_drewN (Below.refl _ _) _).alloc (Nat.le_refl _) _) _)⟩
  | true =>
    have HF2 := hd (fun w' h => hf ▸ HF.out w' h)
    clear HF
    cases hi : finB (nrm .f32 l) && finB (nrm .f32 c) with
    | false =>
      have H := hd (M_no (xs := xs) (by rw [condB, hf, hi]; rfl))
      have HI2 := hd (fun w' {v} h => hi ▸ HI.out w' v h)
      clear HI hi hf
      go_enter Try.func7, Try.ntmps7
      go_wp2_with (first
        | (go_at_call 15; refine HA.out.mono ?_; rintro e w' ⟨b, rfl, hb, n, rfl⟩; have Hb := hd hb; clear hb)
        | (go_at_call 16; refine (HF2.out _ (by first | exact below_drewN (Below.refl _ _) _ | exact below_drewN (below_drewN (Below.refl _ _) _) _)).mono ?_; rintro e w' ⟨rfl, k, rfl⟩)
        | (go_at_call 18; refine (HI2.out _ (sl_pair _ _ _ _)).mono ?_; rintro e w' ⟨rfl, k2, rfl⟩)
        )
      go_ret2
      rw [H.out]
      exact ⟨_, rfl, World.ownsRow_nil _ _ _ _, (by first | exact below_drewN (Below.refl _ _) _ | exact below_drewN (below_drewN (Below.refl _ _) _) _ | exact below_drewN ((below_drewN (Below.refl _ _) _).alloc (Nat.le_refl _) _) _)⟩
    | true =>
    have HI2 := hd (fun w' {v} h => hi ▸ HI.out w' v h)
    clear HI
    cases hg : geB l with
    | false =>
      have H := hd (M_no (xs := xs) (by rw [condB, hf, hi, hg]; rfl))
      rcases geB_f hg with ho | ho
      all_goals
        clear hi hf hg
        go_enter Try.func7, Try.ntmps7
        go_wp2_with (first
          | (go_at_call 15; refine HA.out.mono ?_; rintro e w' ⟨b, rfl, hb, n, rfl⟩; have Hb := hd hb; clear hb)
          | (go_at_call 16; refine (HF2.out _ (by first | exact below_drewN (Below.refl _ _) _ | exact below_drewN (below_drewN (Below.refl _ _) _) _)).mono ?_; rintro e w' ⟨rfl, k, rfl⟩)
          | (go_at_call 18; refine (HI2.out _ (sl_pair _ _ _ _)).mono ?_; rintro e w' ⟨rfl, k2, rfl⟩)
          )
        go_ret2
        rw [H.out]
        exact ⟨_, rfl, World.ownsRow_nil _ _ _ _, (by first | exact below_drewN (Below.refl _ _) _ | exact below_drewN (below_drewN (Below.refl _ _) _) _ | exact below_drewN ((below_drewN (Below.refl _ _) _).alloc (Nat.le_refl _) _) _)⟩
    | true =>
    have ho := geB_t hg
    cases hg2 : ge2 c l with
    | false =>
      have H := hd (M_no (xs := xs) (by rw [condB, hf, hi, hg, hg2]; rfl))
      rcases ge2_f hg2 with ho2 | ho2
      all_goals
        clear hi hf hg hg2
        go_enter Try.func7, Try.ntmps7
        go_wp2_with (first
          | (go_at_call 15; refine HA.out.mono ?_; rintro e w' ⟨b, rfl, hb, n, rfl⟩; have Hb := hd hb; clear hb)
          | (go_at_call 16; refine (HF2.out _ (by first | exact below_drewN (Below.refl _ _) _ | exact below_drewN (below_drewN (Below.refl _ _) _) _)).mono ?_; rintro e w' ⟨rfl, k, rfl⟩)
          | (go_at_call 18; refine (HI2.out _ (sl_pair _ _ _ _)).mono ?_; rintro e w' ⟨rfl, k2, rfl⟩)
          )
        go_ret2
        rw [H.out]
        exact ⟨_, rfl, World.ownsRow_nil _ _ _ _, (by first | exact below_drewN (Below.refl _ _) _ | exact below_drewN (below_drewN (Below.refl _ _) _) _ | exact below_drewN ((below_drewN (Below.refl _ _) _).alloc (Nat.le_refl _) _) _)⟩
    | true =>
    have ho2 := ge2_t hg2
    cases hr0 : gt0F (sumF xs xs.length) with
    | false =>
      have H := hd (M_no (xs := xs) (l := l) (c := c) (by rw [condB, hr0]; simp))
      have HG := hd hr0
      clear hi hf hg hg2 hr0
      go_enter Try.func7, Try.ntmps7
      go_wp2_with (first
        | (go_at_call 15; refine HA.out.mono ?_; rintro e w' ⟨b, rfl, hb, n, rfl⟩; have Hb := hd hb; have g1 := (order_gt0 hb).trans HG.out; clear hb)
        | (go_at_call 16; refine (HF2.out _ (by first | exact below_drewN (Below.refl _ _) _ | exact below_drewN (below_drewN (Below.refl _ _) _) _)).mono ?_; rintro e w' ⟨rfl, k, rfl⟩)
        | (go_at_call 18; refine (HI2.out _ (sl_pair _ _ _ _)).mono ?_; rintro e w' ⟨rfl, k2, rfl⟩)
        )
      go_ret2
      rw [H.out]
      exact ⟨_, rfl, World.ownsRow_nil _ _ _ _, (by first | exact below_drewN (Below.refl _ _) _ | exact below_drewN (below_drewN (Below.refl _ _) _) _ | exact below_drewN ((below_drewN (Below.refl _ _) _).alloc (Nat.le_refl _) _) _)⟩
    | true =>
      have HC := hd (show condB xs l c = true by rw [condB, hf, hi, hg, hg2, hr0]; rfl)
      have HG := hd hr0
      have h12 := (flows_all.1 hf).1
      have HY := hd (fun rs h hr => M_yes (xs := xs) (l := l) (c := c) (rs := rs) HC.out h hr)
      have HNO := hd (fun h => M_inf (xs := xs) (l := l) (c := c) h)
      clear hi hf hg hg2 hr0 HC
      generalize hn : xs.length = n at *
      have Hn := hd hn
      clear hn
      go_enter Try.func7, Try.ntmps7
      go_wp2_with (first
        | (go_at_call 15; refine HA.out.mono ?_; rintro e w' ⟨b, rfl, hb, n0, rfl⟩; have Hb := hd hb; have g1 := (order_gt0 hb).trans HG.out; clear hb)
        | (go_at_call 16; refine (HF2.out _ (by first | exact below_drewN (Below.refl _ _) _ | exact below_drewN (below_drewN (Below.refl _ _) _) _)).mono ?_; rintro e w' ⟨rfl, k, rfl⟩)
        | (go_at_call 18; refine (HI2.out _ (sl_pair _ _ _ _)).mono ?_; rintro e w' ⟨rfl, k2, rfl⟩)
        )
      skip
      · exact (no_way ho ho2 (by assumption)).elim
      · clear ho ho2
        rename_i hgood _ _
        clear hgood
        go_loopw [9, 42] (fun out ix wr => ∃ (k : Nat) (rs : List Nat), k ≤ n ∧ ix = .int .i64 k ∧ rs.length = k ∧ Hid (rs.map (nrm .f32) = (List.range k).map (shareF xs l c)) ∧ wr.ownsRow w.heap.size 27 1 out k (rs.map vf) ∧ Below w.heap.size w wr) (fun _ ix _ => n - (intOf ix).toNat)
        case atStart =>
          refine ⟨0, [], by omega, rfl, rfl, hd rfl, ?_, ?_⟩
          · have h := World.ownsRow_made (base := w.heap.size) (size := 1) (e := 27) (((w.drewN (n0 + k)).alloc (.cells #[.float .f32 l, .float .f32 c] 27)).drewN k2) #[] 0 (by simp) (by unfold maxLen; omega) rfl
            simpa using h
          · exact Below.alloc (below_drewN (Below.alloc (below_drewN (Below.refl _ _) _) (Nat.le_refl _) _) _) (by simp) _
        case round =>
          obtain ⟨k, rs, hk, rfl, hl, hrs, ho, hB⟩ := hrel
          by_cases hlt : k < n
          · obtain ⟨b1, off, rfl, hc⟩ := (hr.below hB).flt hlt
            have HS := hd (show shareF xs l c k = fop .quo .f32 (fop .mul .f32 (fop .sub .f32 (nrm .f32 c) (nrm .f32 l)) (nrm .f32 (xs.getD k 0))) (sumF xs n) by rw [← Hn.out]; rfl)
            generalize xs.getD k 0 = q at *
            have HO := hd ho; have HB := hd hB; have HL := hd hl
            clear hr ho hB hl
            go_wp2_with (first
              | (refine wpList_fop _ rfl .sub _ _ _ _ rfl .f32 _ _ rfl rfl (by simp) ?_; intro r2 n2 h2; have H2 := hd h2; clear h2)
              | (refine wpList_fop _ rfl .mul _ _ _ _ rfl .f32 _ _ rfl rfl (by simp) ?_; intro r3 n3 h3; have H3 := hd h3; clear h3)
              | (refine wpList_fop _ rfl .quo _ _ _ _ rfl .f32 _ _ rfl rfl (by simp) ?_; intro r4 n4 h4; have H4 := hd h4; clear h4)
              | (at_builtin; go_must (refine wpList_app_float _ _ _ rfl _ _ rfl w.heap.size k _ _ rfl (own_more HO.out) rfl _ rfl (by simp) (by omega) (Nat.le_trans HB.out.size (by simp)) ?_); intro v' w1 ho1 hg1 hap))
            go_roundw
            case rel =>
              refine ⟨k + 1, rs ++ [r4], by omega, by go_num, by simp [HL.out], hd (map_snoc hrs.out (by rw [H4.out, H3.out, H2.out, show nrm .f32 b = _ from Hb.out, HS.out])), ?_, below_row hg1 (below_more HB.out) (own_row HO.out (Nat.le_refl _))⟩
              rw [List.map_append]; exact ho1
            case measure => simp [intOf]; omega
          · have e : k = n := by omega
            subst e
            have HFN := hd (fun w' h => areFinite_any u9 rs w' (hl ▸ h))
            have e2 := any_nrm hrs.out
            have HO := hd ho; have HB := hd hB; have HL := hd hl
            clear ho hB hl hr
            cases hq : ((List.range k).map (shareF xs l c)).all finB with
            | false =>
              have H := hd (HNO.out hq)
              have HF3 := hd (fun w' h => (e2.trans hq) ▸ HFN.out w' h)
              clear HFN e2 hq
              go_wp2_with (go_at_call 18; refine (HF3.out _ (own_sl HO.out (size_le (by omega)))).mono ?_; rintro e w' ⟨rfl, k3, rfl⟩)
              go_ret2
              rw [H.out]
              exact ⟨_, rfl, World.ownsRow_nil _ _ _ _, below_more HB.out⟩
            | true =>
              have H := hd (HY.out rs hq hrs.out)
              have HF3 := hd (fun w' h => (e2.trans hq) ▸ HFN.out w' h)
              clear HFN e2 hq
              go_wp2_with (go_at_call 18; refine (HF3.out _ (own_sl HO.out (size_le (by omega)))).mono ?_; rintro e w' ⟨rfl, k3, rfl⟩)
              go_ret2
              rw [H.out]
              refine ⟨_, rfl, ?_, below_more HB.out⟩
              show (World.drewN _ _).ownsRow _ _ _ _ rs.length _
              rw [HL.out]
              exact own_more HO.out
end Go.Proofs.Ytpnbjfhcnjdohaa.ShaI
