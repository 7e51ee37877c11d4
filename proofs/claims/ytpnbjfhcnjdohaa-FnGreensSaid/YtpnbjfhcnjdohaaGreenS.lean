/- GreenWave of the reference: a contract. -/
import Derived.Test.YtpnbjfhcnjdohaaProg
import Derived.Test.YtpnbjfhcnjdohaaGreenM
import Derived.Test.YtpnbjfhcnjdohaaGreenI
namespace Go.Proofs.Ytpnbjfhcnjdohaa
open Go.RowKit Plain
open Ieee
set_option linter.unusedVariables false
set_option linter.unusedSimpArgs false
attribute [local go_sem ↓] Go.wp_at_zero Go.wp_at_succ
set_option maxHeartbeats 1000000 in
theorem l02Above_any (a : Nat) (w : World) : Calls Try.prog 22 #[.float .f32 a] w (Draws (.bool (upB a)) w) := by
  have HF := hd (l01Finite_any a)
  cases h : finB (nrm .f32 a) with
  | true =>
    have HF2 := hd (h ▸ HF.out)
    have H := hd (show upB a = (FloatKind.f32.format.order a 0 == some .gt) by rw [upB, h]; rfl)
    clear HF h
    go_enter Try.func22, Try.ntmps22
    go_wp2_with (go_at_call 36; refine (HF2.out _).mono ?_; rintro e w' ⟨rfl, m, rfl⟩)
    go_ret
    exact ⟨ret_bool H.out.symm, _, rfl⟩
  | false =>
    have HF2 := hd (h ▸ HF.out)
    have H := hd (show upB a = false by rw [upB, h]; rfl)
    clear HF h
    go_enter Try.func22, Try.ntmps22
    go_wp2_with (go_at_call 36; refine (HF2.out _).mono ?_; rintro e w' ⟨rfl, m, rfl⟩)
    go_ret
    exact ⟨ret_bool H.out.symm, _, rfl⟩
set_option maxHeartbeats 400000 in
theorem l02Share_unit (c : Nat) (w : World) : Calls Try.prog 23 #[.float .f32 c] w fun r w' => r = .returned (.bool (unitB c)) ∧ w = w' := by
  go_enter Try.func23, Try.ntmps23
  go_wp2
  all_goals (go_ret; refine ⟨ret_bool ?_, rfl⟩; simp [unitB, *])
theorem flows_whole {xs : List Nat} (h : ∀ k, k < xs.length → (finB (nrm .f32 (xs.getD k 0)) && geB (xs.getD k 0)) = true) : flowsB xs = inR (xs.length : Int) 1 12 := by
  rw [Bool.eq_iff_iff, flows_all, inR_iff]
  constructor
  · rintro ⟨h1, _⟩; omega
  · intro h1; exact ⟨by omega, fun k hk => by simpa using h k hk⟩
theorem wave_nodes {xs : List Nat} (h : inR (xs.length : Int) 1 12 = false) : flowsB xs = false := by
  cases e : flowsB xs with
  | false => rfl
  | true =>
    have h2 := (flows_all.1 e).1
    rw [inR_iff.2 ⟨by omega, by omega⟩] at h
    cases h
theorem wave_num (xs : List Nat) (i0 : ∀ x ∈ xs, (Lit.float .f32 x).wf = true) (s : Nat) (i1 : (Lit.float .f32 s).wf = true) (c : Nat) (i2 : (Lit.float .f32 c).wf = true) (g : Nat) (n : Int) : nrm .f32 (waveM xs s c g n).2.1 = some (waveM xs s c g n).2.1 := by
  cases h : waveB xs s c g n with
  | false => rw [wave_no h]; decide
  | true =>
    rw [waveM, if_pos h]
    simp only [waveB, Bool.and_eq_true] at h
    obtain ⟨hf, us, uc, hu, hn, ha⟩ := h
    obtain ⟨n1, n2⟩ := inR_iff.1 hn
    obtain ⟨N, rfl⟩ := Int.eq_ofNat_of_zero_le (show 0 ≤ n by omega)
    obtain ⟨hmul, hLi⟩ := long_at i1 i2 us uc
    obtain ⟨hlen, hall⟩ := flows_all.1 hf
    have hNW : ∀ k, k < xs.length → NW (faultW (longW s c) N xs k) := fun k hk => by
      have hx : xs.getD k 0 ∈ xs := by
        rw [List.getD_eq_getElem?_getD, List.getElem?_eq_getElem hk]
        exact List.getElem_mem hk
      exact (steps_all (n := N) (by omega) (by omega) (place_ok (i0 _ hx) hLi (hall k hk).1 (hall k hk).2 (List.all_eq_true.1 ha _ hx)).2.1).2.2.1
    obtain ⟨_, _, _, _, _, _, b5⟩ := band_at hu (unit_fin hu) (low_nw hNW hlen.1) (high_nw hNW hlen.1)
    show nrm .f32 (bandW g (lowW (faultW (longW s c) N xs) xs.length) (highW (faultW (longW s c) N xs) xs.length)) = some (bandW g (lowW (faultW (longW s c) N xs) xs.length) (highW (faultW (longW s c) N xs) xs.length))
    rw [nrm, show FloatKind.f32.format = single from rfl, b5]
    rfl
set_option maxHeartbeats 8000000 in
set_option maxRecDepth 100000 in
theorem specWave_any (w : World) (v0 : Value) (xs : List Nat) (i0 : ∀ x ∈ xs, (Lit.float .f32 x).wf = true) (s0 : Sl w 1 v0 xs.length (xs.map vf)) (s : Nat) (i1 : (Lit.float .f32 s).wf = true) (c : Nat) (i2 : (Lit.float .f32 c).wf = true) (g : Nat) (n : Int) :
    Calls Try.prog 10 #[v0, .float .f32 s, .float .f32 c, .float .f32 g, .int .i64 n] w (WaveOut (waveM xs s c g n) w) := by
  obtain ⟨A, cap, rfl, hcap, hr⟩ := s0
  have hm := hr.2.1
  unfold maxLen at hm
  have HN1 := hd (fun w => l05Nodes_any (xs.length : Int) w)
  cases h1 : inR (xs.length : Int) 1 12 with
  | false =>
    have H := hd (wave_no (s := s) (c := c) (g := g) (n := n) (by rw [waveB, wave_nodes h1]; rfl))
    have HN0 := hd (h1 ▸ HN1.out)
    clear HN1 h1 i0 i1 i2 hr
    go_enter Try.func10, Try.ntmps10
    go_wp2_with (first
      | (go_at_call 21; refine (HN0.out _).mono ?_; rintro e w' ⟨rfl, hw⟩; subst hw)
      )
    go_ret3
    rw [WaveOut, H.out]
    exact ⟨_, rfl, World.ownsRow_nil _ _ _ _, (by first | exact Below.refl _ _ | exact below_drewN (Below.refl _ _) _ | exact below_drewN (below_drewN (Below.refl _ _) _) _)⟩
  | true =>
  have HN0 := hd (h1 ▸ HN1.out)
  clear HN1
  cases us : upB s with
  | false =>
    have H := hd (wave_no (xs := xs) (s := s) (c := c) (g := g) (n := n) (by rw [waveB, us]; simp))
    have HS0 := hd (fun w => us ▸ l02Above_any s w)
    have HC0 := HS0
    clear us i0 i1 i2 hr
    go_enter Try.func10, Try.ntmps10
    go_wp2_with (first
      | (go_at_call 21; refine (HN0.out _).mono ?_; rintro e w' ⟨rfl, hw⟩; subst hw)
      | (go_at_call 22; first | (refine (HS0.out _).mono ?_; rintro e w' ⟨rfl, k2, rfl⟩) | (refine (HC0.out _).mono ?_; rintro e w' ⟨rfl, k3, rfl⟩))
      )
    go_ret3
    rw [WaveOut, H.out]
    exact ⟨_, rfl, World.ownsRow_nil _ _ _ _, (by first | exact Below.refl _ _ | exact below_drewN (Below.refl _ _) _ | exact below_drewN (below_drewN (Below.refl _ _) _) _)⟩
  | true =>
  have HS0 := hd (fun w => us ▸ l02Above_any s w)
  cases uc : upB c with
  | false =>
    have H := hd (wave_no (xs := xs) (s := s) (c := c) (g := g) (n := n) (by rw [waveB, uc]; simp))
    have HC0 := hd (fun w => uc ▸ l02Above_any c w)
    clear us uc i0 i1 i2 hr
    go_enter Try.func10, Try.ntmps10
    go_wp2_with (first
      | (go_at_call 21; refine (HN0.out _).mono ?_; rintro e w' ⟨rfl, hw⟩; subst hw)
      | (go_at_call 22; first | (refine (HS0.out _).mono ?_; rintro e w' ⟨rfl, k2, rfl⟩) | (refine (HC0.out _).mono ?_; rintro e w' ⟨rfl, k3, rfl⟩))
      )
    go_ret3
    rw [WaveOut, H.out]
    exact ⟨_, rfl, World.ownsRow_nil _ _ _ _, (by first | exact Below.refl _ _ | exact below_drewN (Below.refl _ _) _ | exact below_drewN (below_drewN (Below.refl _ _) _) _)⟩
  | true =>
  have HC0 := hd (fun w => uc ▸ l02Above_any c w)
  cases hu : unitB g with
  | false =>
    have H := hd (wave_no (xs := xs) (s := s) (c := c) (g := g) (n := n) (by rw [waveB, hu]; simp))
    have HG0 := hd (fun w => hu ▸ l02Share_unit g w)
    clear us uc hu i0 i1 i2 hr
    go_enter Try.func10, Try.ntmps10
    go_wp2_with (first
      | (go_at_call 21; refine (HN0.out _).mono ?_; rintro e w' ⟨rfl, hw⟩; subst hw)
      | (go_at_call 22; first | (refine (HS0.out _).mono ?_; rintro e w' ⟨rfl, k2, rfl⟩) | (refine (HC0.out _).mono ?_; rintro e w' ⟨rfl, k3, rfl⟩))
      | (go_at_call 23; refine (HG0.out _).mono ?_; rintro e w' ⟨rfl, hw⟩; subst hw)
      )
    go_ret3
    rw [WaveOut, H.out]
    exact ⟨_, rfl, World.ownsRow_nil _ _ _ _, (by first | exact Below.refl _ _ | exact below_drewN (Below.refl _ _) _ | exact below_drewN (below_drewN (Below.refl _ _) _) _)⟩
  | true =>
  have HG0 := hd (fun w => hu ▸ l02Share_unit g w)
  cases hn : inR n 1 100 with
  | false =>
    have H := hd (wave_no (xs := xs) (s := s) (c := c) (g := g) (n := n) (by rw [waveB, hn]; simp))
    have HW := hd (fun w => l00In_f n 1 100 w hn)
    clear us uc hu i0 i1 i2 hr hn
    go_enter Try.func10, Try.ntmps10
    go_wp2_with (first
      | (go_at_call 21; refine (HN0.out _).mono ?_; rintro e w' ⟨rfl, hw⟩; subst hw)
      | (go_at_call 22; first | (refine (HS0.out _).mono ?_; rintro e w' ⟨rfl, k2, rfl⟩) | (refine (HC0.out _).mono ?_; rintro e w' ⟨rfl, k3, rfl⟩))
      | (go_at_call 23; refine (HG0.out _).mono ?_; rintro e w' ⟨rfl, hw⟩; subst hw)
      | (go_at_call 24; refine (HW.out _).mono ?_; rintro e w' ⟨rfl, hw⟩; subst hw)
      )
    go_ret3
    rw [WaveOut, H.out]
    exact ⟨_, rfl, World.ownsRow_nil _ _ _ _, (by first | exact Below.refl _ _ | exact below_drewN (Below.refl _ _) _ | exact below_drewN (below_drewN (Below.refl _ _) _) _)⟩
  | true =>
  have HW := hd (fun w => l00In_t n 1 100 w hn)
  obtain ⟨n1, n2⟩ := inR_iff.1 hn
  obtain ⟨N, rfl⟩ := Int.eq_ofNat_of_zero_le (show 0 ≤ n by omega)
  obtain ⟨hmul, hLi⟩ := long_at i1 i2 us uc
  have hlen := inR_iff.1 h1
  have hNO := hd (fun (h : (flowsB xs && xs.all (okQ (longW s c))) = false) => wave_no (xs := xs) (s := s) (c := c) (g := g) (n := (N : Int)) (by
    rw [waveB, us, uc, hu, hn]
    simpa using h))
  have hYES := hd (fun (hf : flowsB xs = true) (h : xs.all (okQ (longW s c)) = true) => show waveM xs s c g N = (marksW (longW s c) N xs xs.length, bandW g (lowW (faultW (longW s c) N xs) xs.length) (highW (faultW (longW s c) N xs) xs.length), true) by
    rw [waveM, show waveB xs s c g N = true by rw [waveB, hf, us, uc, hu, hn, h]; rfl]; rfl)
  generalize hL : longW s c = L at *
  have hwf : ∀ k, k < xs.length → (Lit.float .f32 (xs.getD k 0)).wf = true := fun k hk => by
    rw [List.getD_eq_getElem?_getD, List.getElem?_eq_getElem hk]
    exact i0 _ (List.getElem_mem hk)
  have HP := hd (fun k (hk : k < xs.length) (hl : (finB (nrm .f32 (xs.getD k 0)) && geB (xs.getD k 0)) = true) (h : okQ L (xs.getD k 0) = true) => by
    rw [Bool.and_eq_true] at hl
    exact place_ok (hwf k hk) hLi hl.1 hl.2 h)
  have HT := hd (fun k (hk : k < xs.length) (hl : (finB (nrm .f32 (xs.getD k 0)) && geB (xs.getD k 0)) = true) (h : okQ L (xs.getD k 0) = true) => steps_all (n := N) (by omega) (by omega) (HP.out k hk hl h).2.1)
  have HB := hd (fun lo hi => band_at (lo := lo) (hi := hi) hu (unit_fin hu))
  have R0 := fun w => run_float_arith (P := Try.prog) w .mul 27 .f32 _ _ _ hmul
  have KN := hd (fun k (hk : k < xs.length) (h : okQ L (xs.getD k 0) = false) => show (flowsB xs && xs.all (okQ L)) = false by rw [okQ_no hk h, Bool.and_false])
  have KF := hd (fun k (hk : k < xs.length) (h : (finB (nrm .f32 (xs.getD k 0)) && geB (xs.getD k 0)) = false) => show (flowsB xs && xs.all (okQ L)) = false by rw [flows_no hk h, Bool.false_and])
  have KY := hd (fun (h : ∀ k, k < xs.length → okQ L (xs.getD k 0) = true) => okQ_yes (L := L) (xs := xs) h)
  have KE := hd (fun (h : ∀ k, k < xs.length → (finB (nrm .f32 (xs.getD k 0)) && geB (xs.getD k 0)) = true) => (flows_whole h).trans h1)
  have h12 : 1 ≤ xs.length ∧ xs.length ≤ 12 := by omega
  clear i0 i1 i2 us uc hu hn hmul hLi hL hwf h1 hlen
  generalize hn : xs.length = nn at *
  clear hn
  go_enter Try.func10, Try.ntmps10
  go_wp2_with (first
    | (go_at_call 21; refine (HN0.out _).mono ?_; rintro e w' ⟨rfl, hw⟩; subst hw)
    | (go_at_call 22; first | (refine (HS0.out _).mono ?_; rintro e w' ⟨rfl, k2, rfl⟩) | (refine (HC0.out _).mono ?_; rintro e w' ⟨rfl, k3, rfl⟩))
    | (go_at_call 23; refine (HG0.out _).mono ?_; rintro e w' ⟨rfl, hw⟩; subst hw)
    | (go_at_call 24; refine (HW.out _).mono ?_; rintro e w' ⟨rfl, hw⟩; subst hw)
    )
  go_loopw [14, 15, 16, 53] (fun out lo hi ix wr => ∃ k : Nat, k ≤ nn ∧ ix = .int .i64 k ∧ lo = .float .f32 (lowW (faultW L N xs) k) ∧ hi = .float .f32 (highW (faultW L N xs) k) ∧ Hid (∀ j, j < k → (finB (nrm .f32 (xs.getD j 0)) && geB (xs.getD j 0)) = true ∧ okQ L (xs.getD j 0) = true) ∧ wr.ownsRow w.heap.size 27 1 out k ((marksW L N xs k).map vf) ∧ Below w.heap.size w wr) (fun _ _ _ ix _ => nn - (intOf ix).toNat)
  case atStart =>
    refine ⟨0, by omega, rfl, rfl, rfl, hd (fun j hj => absurd hj (by omega)), ?_, ?_⟩
    · have h := World.ownsRow_made (base := w.heap.size) (size := 1) (e := 27) (w.drewN (k2 + k3)) #[] 0 (by simp) (by unfold maxLen; omega) rfl
      simpa [marksW] using h
    · exact Below.alloc (below_drewN (Below.refl _ _) _) (Nat.le_refl _) _
  case round =>
    clear HN0 HS0 HC0 HG0 HW
    obtain ⟨k, hk, rfl, rfl, rfl, hok, ho, hB⟩ := hrel
    by_cases hlt : k < nn
    · obtain ⟨b1, off, rfl, hc⟩ := (hr.below hB).flt hlt
      cases hl : finB (nrm .f32 (xs.getD k 0)) && geB (xs.getD k 0) with
      | false =>
        have H := hd (hNO.out (KF.out k hlt hl))
        have HBB := hd hB
        have HLe := hd (fun w => hl ▸ l02Least_any (xs.getD k 0) w)
        clear HP HT HB KN KF KY KE hNO hYES hr ho hB hok hl
        generalize xs.getD k 0 = p at *
        generalize lowW (faultW L N xs) k = lo at *
        generalize highW (faultW L N xs) k = hi at *
        go_wp2_with (first
          | (refine wpList_fop _ rfl .quo _ _ _ _ rfl .f32 _ _ rfl rfl (by simp) ?_; intro r2 m2 h2; clear h2)
          | (go_at_call 25; refine (HLe.out _).mono ?_; rintro e w' ⟨rfl, k4, rfl⟩))
        go_ret3
        rw [WaveOut, H.out]
        exact ⟨_, rfl, World.ownsRow_nil _ _ _ _, by first | exact below_more HBB.out | exact below_more (below_more HBB.out)⟩
      | true =>
        have HLe := hd (fun w => hl ▸ l02Least_any (xs.getD k 0) w)
        cases hq : okQ L (xs.getD k 0) with
        | false =>
          have H := hd (hNO.out (KN.out k hlt hq))
          have hg1 := hd (fun r (h : nrm .f32 r = fop .quo .f32 (nrm .f32 (xs.getD k 0)) (nrm .f32 L)) => place_no hq h)
          have HBB := hd hB
          clear HP HT HB KN KF KY KE hNO hYES hr ho hB hq hok hl
          generalize xs.getD k 0 = p at *
          generalize lowW (faultW L N xs) k = lo at *
          generalize highW (faultW L N xs) k = hi at *
          go_wp2_with (first
            | (refine wpList_fop _ rfl .quo _ _ _ _ rfl .f32 _ _ rfl rfl (by simp) ?_; intro r2 m2 h2; have g2 := hg1.out r2 h2; clear h2)
            | (go_at_call 25; refine (HLe.out _).mono ?_; rintro e w' ⟨rfl, k4, rfl⟩))
          go_ret3
          rw [WaveOut, H.out]
          exact ⟨_, rfl, World.ownsRow_nil _ _ _ _, by first | exact below_more HBB.out | exact below_more (below_more HBB.out)⟩
        | true =>
          obtain ⟨q1, q2, q3⟩ := HP.out k hlt hl hq
          obtain ⟨⟨I, J, y, z, p1, p2, p3, p4, p5, p6, p7⟩, _, t1, t2⟩ := HT.out k hlt hl hq
          have HOK := hd (show ∀ j, j < k + 1 → (finB (nrm .f32 (xs.getD j 0)) && geB (xs.getD j 0)) = true ∧ okQ L (xs.getD j 0) = true from fun j hj => by
            rcases Nat.lt_or_ge j k with h | h
            · exact hok.out j h
            · obtain rfl : j = k := by omega
              exact ⟨hl, hq⟩)
          have hNW := fun j (hj : j < k) => (HT.out j (by omega) (hok.out j hj).1 (hok.out j hj).2).2.2.1
          have eF : eW N (quoW L (xs.getD k 0)) = faultW L N xs k := rfl
          have eL := hd (low_step (faultW L N xs) k)
          have eH := hd (high_step (faultW L N xs) k)
          have eM := hd (marks_snoc L N xs k)
          have Q1 := fun w => run_float_arith (P := Try.prog) w .quo 27 .f32 _ _ _ q1
          have C1 := fun w => run_convert_float_int (P := Try.prog) w 27 2 .f32 .i64 _ _ (by rw [Try.underlying27]; rfl) Try.underlying2 p1
          have Q2 := fun w => run_float_arith (P := Try.prog) w .sub 27 .f32 _ _ _ p2
          have Q3 := fun w => run_float_arith (P := Try.prog) w .mul 27 .f32 _ _ _ p3
          have Q4 := fun w => run_float_arith (P := Try.prog) w .add 27 .f32 _ _ _ p4
          have C5 := fun w => run_convert_float_int (P := Try.prog) w 27 2 .f32 .i64 _ _ (by rw [Try.underlying27]; rfl) Try.underlying2 p5
          have Q6 := fun w => run_float_arith (P := Try.prog) w .quo 27 .f32 _ _ _ p6
          have Q7 := fun w => run_float_arith (P := Try.prog) w .sub 27 .f32 _ _ _ p7
          rw [eF] at Q7 t1
          have HN := hd t1
          have hmark := hd (show markW N (quoW L (xs.getD k 0)) = if FloatKind.f32.format.order (mW N (quoW L (xs.getD k 0))) 1065353216 = some .eq then 0 else mW N (quoW L (xs.getD k 0)) from rfl)
          have hmin : ∃ lo, lo = lowW (faultW L N xs) (k + 1) ∧ (0 < k → ((FloatKind.f32.format.order (faultW L N xs k) (lowW (faultW L N xs) k) == some .lt) = true ∧ lo = faultW L N xs k) ∨ ((FloatKind.f32.format.order (faultW L N xs k) (lowW (faultW L N xs) k) == some .lt) = false ∧ lo = lowW (faultW L N xs) k)) ∧ (k = 0 → lo = faultW L N xs k) := by
            refine ⟨_, rfl, fun h0 => ?_, fun h0 => ?_⟩
            · rw [show (FloatKind.f32.format.order (faultW L N xs k) (lowW (faultW L N xs) k) == some .lt) = _ from nw_lt (low_nw (f := faultW L N xs) hNW h0) HN.out, eL.out, if_neg (show ¬ k = 0 by omega)]
              by_cases h : FloatKind.f32.format.order (lowW (faultW L N xs) k) (faultW L N xs k) = some .gt
              · left; rw [if_pos h]; exact ⟨by rw [show single.order (lowW (faultW L N xs) k) (faultW L N xs k) = some .gt from h]; rfl, rfl⟩
              · right; rw [if_neg h]; exact ⟨beq_eq_false_iff_ne.2 h, rfl⟩
            · rw [eL.out, if_pos h0, h0]
          have hmax : ∃ hi, hi = highW (faultW L N xs) (k + 1) ∧ (0 < k → ((FloatKind.f32.format.order (faultW L N xs k) (highW (faultW L N xs) k) == some .gt) = true ∧ hi = faultW L N xs k) ∨ ((FloatKind.f32.format.order (faultW L N xs k) (highW (faultW L N xs) k) == some .gt) = false ∧ hi = highW (faultW L N xs) k)) ∧ (k = 0 → hi = faultW L N xs k) := by
            refine ⟨_, rfl, fun h0 => ?_, fun h0 => ?_⟩
            · rw [show (FloatKind.f32.format.order (faultW L N xs k) (highW (faultW L N xs) k) == some .gt) = _ from nw_gt (high_nw (f := faultW L N xs) hNW h0) HN.out, eH.out, if_neg (show ¬ k = 0 by omega)]
              by_cases h : FloatKind.f32.format.order (highW (faultW L N xs) k) (faultW L N xs k) = some .lt
              · left; rw [if_pos h]; exact ⟨by rw [show single.order (highW (faultW L N xs) k) (faultW L N xs k) = some .lt from h]; rfl, rfl⟩
              · right; rw [if_neg h]; exact ⟨beq_eq_false_iff_ne.2 h, rfl⟩
            · rw [eH.out, if_pos h0, h0]
          obtain ⟨lo', hlo, hlo1, hlo2⟩ := hmin
          obtain ⟨hi', hhi, hhi1, hhi2⟩ := hmax
          have HLO := hd hlo
          have HHI := hd hhi
          have HO := hd ho
          have HBB := hd hB
          clear hlo hhi ho hB hNW HP HT HB KN KF KY KE hNO hYES hr p1 p2 p3 p4 p5 p6 p7 q1 q2 hok hq hl eL eH eF t1 t2 HN
          obtain ⟨e, he⟩ : ∃ e, e = faultW L N xs k := ⟨_, rfl⟩
          rw [← he] at *
          clear he
          generalize lowW (faultW L N xs) k = lo at *
          generalize highW (faultW L N xs) k = hi at *
          generalize mW N (quoW L (xs.getD k 0)) = m at *
          generalize xW (quoW L (xs.getD k 0)) = x at *
          obtain ⟨mk, hmk⟩ : ∃ mk, mk = markW N (quoW L (xs.getD k 0)) := ⟨_, rfl⟩
          rw [← hmk] at eM hmark
          clear hmk
          generalize quoW L (xs.getD k 0) = q at *
          generalize xs.getD k 0 = p at *
          have hmk2 : ((FloatKind.f32.format.order m 1065353216 == some .eq) = true ∧ mk = 0) ∨ ((FloatKind.f32.format.order m 1065353216 == some .eq) = false ∧ mk = m) := by
            have h := hmark.out
            by_cases hm : FloatKind.f32.format.order m 1065353216 = some .eq
            · left; rw [if_pos hm] at h; exact ⟨by rw [hm]; rfl, h⟩
            · right; rw [if_neg hm] at h; exact ⟨by simpa using hm, h⟩
          clear hmark
          rcases Nat.eq_zero_or_pos k with h0 | h0
          · subst h0
            rw [Nat.add_zero] at hc
            have E1 := hlo2 rfl
            have E2 := hhi2 rfl
            subst E1
            subst E2
            clear hlo1 hhi1 hlo2 hhi2
            rcases hmk2 with ⟨hm, rfl⟩ | ⟨hm, rfl⟩
            all_goals
              go_wp2_with (first
                | (go_at_call 25; refine (HLe.out _).mono ?_; rintro e1 w' ⟨rfl, k4, rfl⟩)
                | (at_builtin; go_must (refine wpList_app_float _ _ _ rfl _ _ rfl w.heap.size 0 _ _ rfl (by first | exact HO.out | exact own_more HO.out) rfl _ rfl (by simp) (by omega) (Nat.le_trans HBB.out.size (by simp)) ?_); intro v' w1 ho1 hg1 hap))
              go_roundw
              case rel =>
                refine ⟨0 + 1, by omega, by go_num, by rw [← HLO.out], by rw [← HHI.out], HOK, ?_, below_row hg1 (by first | exact HBB.out | exact below_more HBB.out) (own_row HO.out (Nat.le_refl _))⟩
                rw [eM.out, List.map_append]; exact ho1
              case measure => simp [intOf]; omega
          · have E1 := hlo1 h0
            have E2 := hhi1 h0
            clear hlo1 hhi1 hlo2 hhi2
            have hk0 : ¬ ((k : Int) = 0) := by omega
            rcases hmk2 with ⟨hm, rfl⟩ | ⟨hm, rfl⟩ <;> rcases E1 with ⟨hl1, rfl⟩ | ⟨hl1, rfl⟩ <;> rcases E2 with ⟨hh1, rfl⟩ | ⟨hh1, rfl⟩
            all_goals
              go_wp2_with (first
                | (go_at_call 25; refine (HLe.out _).mono ?_; rintro e1 w' ⟨rfl, k4, rfl⟩)
                | (at_builtin; go_must (refine wpList_app_float _ _ _ rfl _ _ rfl w.heap.size k _ _ rfl (by first | exact HO.out | exact own_more HO.out) rfl _ rfl (by simp) (by omega) (Nat.le_trans HBB.out.size (by simp)) ?_); intro v' w1 ho1 hg1 hap))
              go_roundw
              case rel =>
                refine ⟨k + 1, by omega, by go_num, by rw [← HLO.out], by rw [← HHI.out], HOK, ?_, below_row hg1 (by first | exact HBB.out | exact below_more HBB.out) (own_row HO.out (Nat.le_refl _))⟩
                rw [eM.out, List.map_append]; exact ho1
              case measure => simp [intOf]; omega
    · have e : k = nn := by omega
      subst e
      have hNW := fun j (hj : j < k) => (HT.out j (by omega) (hok.out j hj).1 (hok.out j hj).2).2.2.1
      obtain ⟨d, b, b1, b2, b3, b4, b5⟩ := HB.out _ _ (low_nw (f := faultW L N xs) hNW h12.1) (high_nw (f := faultW L N xs) hNW h12.1)
      have HY := hd (hYES.out (KE.out fun j hj => (hok.out j hj).1) (KY.out fun j hj => (hok.out j hj).2))
      have D1 := fun w => run_float_arith (P := Try.prog) w .sub 27 .f32 _ _ _ b1
      have D2 := fun w => run_float_arith (P := Try.prog) w .sub 27 .f32 _ _ _ b2
      have HB3 := hd b3
      have HO := hd ho
      have HBB := hd hB
      clear ho hB HP HT HB KN KF KY KE hNO hYES hr hNW b1 b2 b3 b4 b5 hok
      generalize bandW g (lowW (faultW L N xs) k) (highW (faultW L N xs) k) = bd at *
      generalize lowW (faultW L N xs) k = lo at *
      generalize highW (faultW L N xs) k = hi at *
      by_cases hb : FloatKind.f32.format.order b 0 = some .lt
      · have E := HB3.out
        rw [if_pos hb] at E
        subst E
        go_wp2
        go_ret3
        rw [WaveOut, HY.out]
        refine ⟨_, rfl, ?_, by first | exact HBB.out | exact below_more HBB.out⟩
        rw [marks_len]
        first | exact HO.out | exact own_more HO.out
      · have E := HB3.out
        rw [if_neg hb] at E
        have hb : (FloatKind.f32.format.order b 0 == some .lt) = false := by simpa using hb
        subst E
        go_wp2
        go_ret3
        rw [WaveOut, HY.out]
        refine ⟨_, rfl, ?_, by first | exact HBB.out | exact below_more HBB.out⟩
        rw [marks_len]
        first | exact HO.out | exact own_more HO.out
end Go.Proofs.Ytpnbjfhcnjdohaa
