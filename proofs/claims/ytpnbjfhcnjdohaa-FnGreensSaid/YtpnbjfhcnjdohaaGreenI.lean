/- GreenWave of the program: a contract. -/
import Derived.Test.YtpnbjfhcnjdohaaProg
import Derived.Test.YtpnbjfhcnjdohaaGreenM
namespace Go.Proofs.Ytpnbjfhcnjdohaa
open Go.RowKit Plain
open Ieee
set_option linter.unusedVariables false
set_option linter.unusedSimpArgs false
attribute [local go_sem ↓] Go.wp_at_zero Go.wp_at_succ
theorem ord3 {a b : Nat} (ha : (FloatKind.f32.format.read a).isNaN = false) (hb : (FloatKind.f32.format.read b).isNaN = false) : FloatKind.f32.format.order a b = some .lt ∨ FloatKind.f32.format.order a b = some .eq ∨ FloatKind.f32.format.order a b = some .gt := by
  have h := order_some ha hb
  cases e : FloatKind.f32.format.order a b with
  | none => exact absurd e h
  | some o => cases o <;> simp
theorem sl_three (w : World) (T : TypeId) (x y z : Value) : Sl (w.alloc (.cells #[x, y, z] T)) 1 (.slice (some ⟨w.heap.size, 0, none⟩) 3 3) 3 [x, y, z] := by
  refine ⟨_, 3, rfl, by omega, by simp, by unfold maxLen; omega, fun _ => ⟨_, 0, rfl, fun j u hu => ?_⟩⟩
  match j, hu with
  | 0, hu => simp at hu; subst hu; simp
  | 1, hu => simp at hu; subst hu; simp
  | 2, hu => simp at hu; subst hu; simp
theorem low_step (f : Nat → Nat) (k : Nat) : lowW f (k + 1) = if k = 0 then f 0 else if FloatKind.f32.format.order (lowW f k) (f k) = some .gt then f k else lowW f k := rfl
theorem high_step (f : Nat → Nat) (k : Nat) : highW f (k + 1) = if k = 0 then f 0 else if FloatKind.f32.format.order (highW f k) (f k) = some .lt then f k else highW f k := rfl
def WaveOut (m : List Nat × Nat × Bool) (w : World) : Ending → World → Prop := OutL 27 1 m.1.length (m.1.map vf) (fun u => .tuple #[u, .float .f32 m.2.1, .bool m.2.2]) w

set_option maxHeartbeats 8000000 in
set_option maxRecDepth 100000 in
theorem implWave_any (w : World) (v0 : Value) (xs : List Nat) (i0 : ∀ x ∈ xs, (Lit.float .f32 x).wf = true) (s0 : Sl w 1 v0 xs.length (xs.map vf)) (s : Nat) (i1 : (Lit.float .f32 s).wf = true) (c : Nat) (i2 : (Lit.float .f32 c).wf = true) (g : Nat) (n : Int) :
    Calls Try.prog 9 #[v0, .float .f32 s, .float .f32 c, .float .f32 g, .int .i64 n] w (WaveOut (waveM xs s c g n) w) := by
  have HF := areFlows_any v0 xs w s0
  have HI0 := fun (w' : World) (v : Value) (h : Sl w' 1 v 3 [.float .f32 s, .float .f32 c, .float .f32 g]) => areFinite_any v [s, c, g] w' h
  have e1 : (![s, c, g].any fun b => !finB (nrm .f32 b)) = (finB (nrm .f32 s) && (finB (nrm .f32 c) && finB (nrm .f32 g))) := by simp
  rw [e1] at HI0
  have HI : Hid (∀ (w' : World) (v : Value), Sl w' 1 v 3 [.float .f32 s, .float .f32 c, .float .f32 g] → _) := hd HI0
  clear HI0 e1
  obtain ⟨A, cap, rfl, hcap, hr⟩ := s0
  cases hf : flowsB xs with
  | false =>
    have H := hd (wave_no (s := s) (c := c) (g := g) (n := n) (by rw [waveB, hf]; rfl))
    have HF2 := hd (hf ▸ HF)
    clear HF hf HI i0 i1 i2 hr
    go_enter Try.func9, Try.ntmps9
    go_wp2_with (first
      | (go_at_call 16; refine HF2.out.mono ?_; rintro e w' ⟨rfl, k, rfl⟩)
      )
    go_ret3
    rw [WaveOut, H.out]
    exact ⟨_, rfl, World.ownsRow_nil _ _ _ _, (by first | exact below_drewN (Below.refl _ _) _ | exact below_drewN ((below_drewN (Below.refl _ _) _).alloc (Nat.le_refl _) _) _)⟩
  | true =>
  have HF2 := hd (hf ▸ HF)
  clear HF
  cases hi : finB (nrm .f32 s) && (finB (nrm .f32 c) && finB (nrm .f32 g)) with
  | false =>
    have H := hd (wave_no (xs := xs) (s := s) (c := c) (g := g) (n := n) (by
      rw [waveB, upB, upB]
      cases hg : unitB g with
      | false => simp
      | true =>
        rw [unit_fin hg, Bool.and_true] at hi
        cases h1 : finB (nrm .f32 s) with
        | false => simp
        | true => rw [h1, Bool.true_and] at hi; rw [hi]; simp))
    have HI2 := hd (hi ▸ HI.out)
    clear HI hi hf i0 i1 i2 hr
    go_enter Try.func9, Try.ntmps9
    go_wp2_with (first
      | (go_at_call 16; refine HF2.out.mono ?_; rintro e w' ⟨rfl, k, rfl⟩)
      | (go_at_call 18; refine (HI2.out _ _ (sl_three _ _ _ _ _)).mono ?_; rintro e w' ⟨rfl, k2, rfl⟩)
      )
    go_ret3
    rw [WaveOut, H.out]
    exact ⟨_, rfl, World.ownsRow_nil _ _ _ _, (by first | exact below_drewN (Below.refl _ _) _ | exact below_drewN ((below_drewN (Below.refl _ _) _).alloc (Nat.le_refl _) _) _)⟩
  | true =>
  have HI2 := hd (hi ▸ HI.out)
  clear HI
  simp only [Bool.and_eq_true] at hi
  obtain ⟨fs, fc, fg⟩ := hi
  have n0 : (FloatKind.f32.format.read 0).isNaN = false := by decide
  have n1 : (FloatKind.f32.format.read 1065353216).isNaN = false := by decide
  have os := ord3 (finB_num fs) n0
  have oc := ord3 (finB_num fc) n0
  have og := ord3 (finB_num fg) n0
  have o1 := ord3 (finB_num fg) n1
  clear n0 n1
  have os2 : (FloatKind.f32.format.order s 0 = some .lt ∨ FloatKind.f32.format.order s 0 = some .eq) ∨ FloatKind.f32.format.order s 0 = some .gt := by grind
  clear os
  rcases os2 with os | os
  · have H := hd (wave_no (xs := xs) (s := s) (c := c) (g := g) (n := n) (by rw [waveB, upB]; rcases os with h | h <;> rw [h] <;> simp))
    clear oc og o1 fs fc fg hf i0 i1 i2 hr
    rcases os with os | os
    all_goals
      go_enter Try.func9, Try.ntmps9
      go_wp2_with (first
        | (go_at_call 16; refine HF2.out.mono ?_; rintro e w' ⟨rfl, k, rfl⟩)
        | (go_at_call 18; refine (HI2.out _ _ (sl_three _ _ _ _ _)).mono ?_; rintro e w' ⟨rfl, k2, rfl⟩)
        )
      go_ret3
      rw [WaveOut, H.out]
      exact ⟨_, rfl, World.ownsRow_nil _ _ _ _, (by first | exact below_drewN (Below.refl _ _) _ | exact below_drewN ((below_drewN (Below.refl _ _) _).alloc (Nat.le_refl _) _) _)⟩
  have oc2 : (FloatKind.f32.format.order c 0 = some .lt ∨ FloatKind.f32.format.order c 0 = some .eq) ∨ FloatKind.f32.format.order c 0 = some .gt := by grind
  clear oc
  rcases oc2 with oc | oc
  · have H := hd (wave_no (xs := xs) (s := s) (c := c) (g := g) (n := n) (by rw [waveB, upB, upB]; rcases oc with h | h <;> rw [h] <;> simp))
    clear og o1 fs fc fg hf i0 i1 i2 hr
    rcases oc with oc | oc
    all_goals
      go_enter Try.func9, Try.ntmps9
      go_wp2_with (first
        | (go_at_call 16; refine HF2.out.mono ?_; rintro e w' ⟨rfl, k, rfl⟩)
        | (go_at_call 18; refine (HI2.out _ _ (sl_three _ _ _ _ _)).mono ?_; rintro e w' ⟨rfl, k2, rfl⟩)
        )
      go_ret3
      rw [WaveOut, H.out]
      exact ⟨_, rfl, World.ownsRow_nil _ _ _ _, (by first | exact below_drewN (Below.refl _ _) _ | exact below_drewN ((below_drewN (Below.refl _ _) _).alloc (Nat.le_refl _) _) _)⟩
  have og2 : FloatKind.f32.format.order g 0 = some .lt ∨ (FloatKind.f32.format.order g 0 = some .eq ∨ FloatKind.f32.format.order g 0 = some .gt) := og
  clear og
  rcases og2 with og | og
  · have H := hd (wave_no (xs := xs) (s := s) (c := c) (g := g) (n := n) (by rw [waveB, unitB, og]; simp))
    clear o1 fs fc fg hf i0 i1 i2 hr
    go_enter Try.func9, Try.ntmps9
    go_wp2_with (first
      | (go_at_call 16; refine HF2.out.mono ?_; rintro e w' ⟨rfl, k, rfl⟩)
      | (go_at_call 18; refine (HI2.out _ _ (sl_three _ _ _ _ _)).mono ?_; rintro e w' ⟨rfl, k2, rfl⟩)
      )
    go_ret3
    rw [WaveOut, H.out]
    exact ⟨_, rfl, World.ownsRow_nil _ _ _ _, (by first | exact below_drewN (Below.refl _ _) _ | exact below_drewN ((below_drewN (Below.refl _ _) _).alloc (Nat.le_refl _) _) _)⟩
  have o12 : FloatKind.f32.format.order g 1065353216 = some .gt ∨ (FloatKind.f32.format.order g 1065353216 = some .lt ∨ FloatKind.f32.format.order g 1065353216 = some .eq) := by grind
  clear o1
  rcases o12 with o1 | o1
  · have H := hd (wave_no (xs := xs) (s := s) (c := c) (g := g) (n := n) (by rw [waveB, unitB, o1]; simp))
    clear fs fc fg hf i0 i1 i2 hr
    rcases og with og | og
    all_goals
      go_enter Try.func9, Try.ntmps9
      go_wp2_with (first
        | (go_at_call 16; refine HF2.out.mono ?_; rintro e w' ⟨rfl, k, rfl⟩)
        | (go_at_call 18; refine (HI2.out _ _ (sl_three _ _ _ _ _)).mono ?_; rintro e w' ⟨rfl, k2, rfl⟩)
        )
      go_ret3
      rw [WaveOut, H.out]
      exact ⟨_, rfl, World.ownsRow_nil _ _ _ _, (by first | exact below_drewN (Below.refl _ _) _ | exact below_drewN ((below_drewN (Below.refl _ _) _).alloc (Nat.le_refl _) _) _)⟩
  cases hn : inR n 1 100 with
  | false =>
    have H := hd (wave_no (xs := xs) (s := s) (c := c) (g := g) (n := n) (by rw [waveB, hn]; simp))
    have HW := hd (fun w => within_f n 1 100 w hn)
    clear fs fc fg hf i0 i1 i2 hr hn
    rcases og with og | og <;> rcases o1 with o1 | o1
    all_goals
      go_enter Try.func9, Try.ntmps9
      go_wp2_with (first
        | (go_at_call 16; refine HF2.out.mono ?_; rintro e w' ⟨rfl, k, rfl⟩)
        | (go_at_call 18; refine (HI2.out _ _ (sl_three _ _ _ _ _)).mono ?_; rintro e w' ⟨rfl, k2, rfl⟩)
        | (go_at_call 19; refine (HW.out _).mono ?_; rintro e w' ⟨rfl, hw⟩; subst hw)
        )
      go_ret3
      rw [WaveOut, H.out]
      exact ⟨_, rfl, World.ownsRow_nil _ _ _ _, (by first | exact below_drewN (Below.refl _ _) _ | exact below_drewN ((below_drewN (Below.refl _ _) _).alloc (Nat.le_refl _) _) _)⟩
  | true =>
  have HW := hd (fun w => within_t n 1 100 w hn)
  have hu : unitB g = true := by rw [unitB]; rcases og with h | h <;> rcases o1 with h1 | h1 <;> rw [h, h1] <;> simp
  have us : upB s = true := by rw [upB, fs, os]; simp
  have uc : upB c = true := by rw [upB, fc, oc]; simp
  obtain ⟨n1, n2⟩ := inR_iff.1 hn
  obtain ⟨N, rfl⟩ := Int.eq_ofNat_of_zero_le (show 0 ≤ n by omega)
  obtain ⟨hmul, hLi⟩ := long_at i1 i2 us uc
  have HC := hd (show waveB xs s c g N = xs.all (okQ (longW s c)) by rw [waveB, hf, us, uc, hu, hn]; rfl)
  have hNO := hd (fun h => wave_no (HC.out.trans h))
  have hYES := hd (fun (h : xs.all (okQ (longW s c)) = true) => show waveM xs s c g N = (marksW (longW s c) N xs xs.length, bandW g (lowW (faultW (longW s c) N xs) xs.length) (highW (faultW (longW s c) N xs) xs.length), true) by rw [waveM, HC.out, h]; rfl)
  obtain ⟨hlen, hall⟩ := flows_all.1 hf
  generalize hL : longW s c = L at *
  have hwf : ∀ k, k < xs.length → (Lit.float .f32 (xs.getD k 0)).wf = true := fun k hk => by
    rw [List.getD_eq_getElem?_getD, List.getElem?_eq_getElem hk]
    exact i0 _ (List.getElem_mem hk)
  have HP := hd (fun k (hk : k < xs.length) (h : okQ L (xs.getD k 0) = true) => place_ok (hwf k hk) hLi (hall k hk).1 (hall k hk).2 h)
  have HT := hd (fun k (hk : k < xs.length) (h : okQ L (xs.getD k 0) = true) => steps_all (n := N) (by omega) (by omega) (HP.out k hk h).2.1)
  have HB := hd (fun lo hi => band_at (lo := lo) (hi := hi) hu fg)
  have R0 := fun w => run_float_arith (P := Try.prog) w .mul 27 .f32 _ _ _ hmul
  have KN := hd (fun k => okQ_no (L := L) (xs := xs) (k := k))
  have KY := hd (fun h => okQ_yes (L := L) (xs := xs) h)
  clear i0 i1 i2 hf us uc hu fs fc fg HC hn hmul hLi hL hall hwf
  generalize hn : xs.length = nn at *
  clear hn
  rcases og with og | og <;> rcases o1 with o1 | o1
  all_goals
    go_enter Try.func9, Try.ntmps9
    go_wp2_with (first
      | (go_at_call 16; refine HF2.out.mono ?_; rintro e w' ⟨rfl, k, rfl⟩)
      | (go_at_call 18; refine (HI2.out _ _ (sl_three _ _ _ _ _)).mono ?_; rintro e w' ⟨rfl, k2, rfl⟩)
      | (go_at_call 19; refine (HW.out _).mono ?_; rintro e w' ⟨rfl, hw⟩; subst hw)
      )
    go_loopw [13, 14, 15, 59] (fun out lo hi ix wr => ∃ k : Nat, k ≤ nn ∧ ix = .int .i64 k ∧ lo = .float .f32 (lowW (faultW L N xs) k) ∧ hi = .float .f32 (highW (faultW L N xs) k) ∧ Hid (∀ j, j < k → okQ L (xs.getD j 0) = true) ∧ wr.ownsRow w.heap.size 27 1 out k ((marksW L N xs k).map vf) ∧ Below w.heap.size w wr) (fun _ _ _ ix _ => nn - (intOf ix).toNat)
    case atStart =>
      refine ⟨0, by omega, rfl, rfl, rfl, hd (fun j hj => absurd hj (by omega)), ?_, ?_⟩
      · have h := World.ownsRow_made (base := w.heap.size) (size := 1) (e := 27) (((w.drewN k).alloc (.cells #[.float .f32 s, .float .f32 c, .float .f32 g] 27)).drewN k2) #[] 0 (by simp) (by unfold maxLen; omega) rfl
        simpa [marksW] using h
      · exact Below.alloc (below_drewN (Below.alloc (below_drewN (Below.refl _ _) _) (Nat.le_refl _) _) _) (by simp) _
    case round =>
      clear HF2 HI2 HW og o1 os oc
      obtain ⟨k, hk, rfl, rfl, rfl, hok, ho, hB⟩ := hrel
      by_cases hlt : k < nn
      · obtain ⟨b1, off, rfl, hc⟩ := (hr.below hB).flt hlt
        cases hq : okQ L (xs.getD k 0) with
        | false =>
          have H := hd (hNO.out (KN.out k hlt hq))
          have hg1 := hd (fun r (h : nrm .f32 r = fop .quo .f32 (nrm .f32 (xs.getD k 0)) (nrm .f32 L)) => place_no hq h)
          have HBB := hd hB
          clear HP HT HB KN KY hNO hYES hr ho hB hq hok
          generalize xs.getD k 0 = p at *
          generalize lowW (faultW L N xs) k = lo at *
          generalize highW (faultW L N xs) k = hi at *
          go_wp2_with (refine wpList_fop _ rfl .quo _ _ _ _ rfl .f32 _ _ rfl rfl (by simp) ?_; intro r2 n2 h2; have g2 := hg1.out r2 h2; clear h2)
          go_ret3
          rw [WaveOut, H.out]
          exact ⟨_, rfl, World.ownsRow_nil _ _ _ _, below_more HBB.out⟩
        | true =>
          obtain ⟨q1, q2, q3⟩ := HP.out k hlt hq
          obtain ⟨_, ⟨f, x, y, z, gg, p1, p2, p3, p4, p5, p6, p7⟩, t1, t2⟩ := HT.out k hlt hq
          have HOK := hd (show ∀ j, j < k + 1 → okQ L (xs.getD j 0) = true from fun j hj => by
            rcases Nat.lt_or_ge j k with h | h
            · exact hok.out j h
            · obtain rfl : j = k := by omega
              exact hq)
          have hNW := fun j (hj : j < k) => (HT.out j (by omega) (hok.out j hj)).2.2.1
          have eF : eW N (quoW L (xs.getD k 0)) = faultW L N xs k := rfl
          have eL := hd (low_step (faultW L N xs) k)
          have eH := hd (high_step (faultW L N xs) k)
          have eM := hd (marks_snoc L N xs k)
          have Q1 := fun w => run_float_arith (P := Try.prog) w .quo 27 .f32 _ _ _ q1
          have Q2 := fun w => run_float_arith (P := Try.prog) w .sub 27 .f32 _ _ _ p2
          have Q3 := fun w => run_float_arith (P := Try.prog) w .mul 27 .f32 _ _ _ p3
          have Q4 := fun w => run_float_arith (P := Try.prog) w .add 27 .f32 _ _ _ p4
          have Q6 := fun w => run_float_arith (P := Try.prog) w .quo 27 .f32 _ _ _ p6
          have Q7 := fun w => run_float_arith (P := Try.prog) w .sub 27 .f32 _ _ _ p7
          rw [eF] at Q7 t1
          have HN := hd t1
          have P1 := hd p1
          have P5 := hd p5
          have hml : NW (mW N (quoW L (xs.getD k 0))) := ⟨false, _, t2, by simp, rfl⟩
          have hmark := hd (show markW N (quoW L (xs.getD k 0)) = if FloatKind.f32.format.order (mW N (quoW L (xs.getD k 0))) 1065353216 = some .eq then 0 else mW N (quoW L (xs.getD k 0)) from rfl)
          have hmin : ∃ lo, lo = lowW (faultW L N xs) (k + 1) ∧ (0 < k → ∀ ts t w, (Builtin.min_ ts t #[.float .f32 (lowW (faultW L N xs) k), .float .f32 (faultW L N xs k)]).run Try.prog w = .ok (.float .f32 lo) w) ∧ (k = 0 → lo = faultW L N xs k) := by
            refine ⟨_, rfl, fun h0 => ?_, fun h0 => ?_⟩
            · obtain ⟨o, ho, hs⟩ := nw_order (low_nw (f := faultW L N xs) hNW h0) HN.out
              intro ts t w
              rw [run_min_f32 ts t _ _ w o ho hs, eL.out, if_neg (show ¬ k = 0 by omega), show FloatKind.f32.format.order (lowW (faultW L N xs) k) (faultW L N xs k) = some o from ho]
              cases o <;> rfl
            · rw [eL.out, if_pos h0, h0]
          have hmax : ∃ hi, hi = highW (faultW L N xs) (k + 1) ∧ (0 < k → ∀ ts t w, (Builtin.max_ ts t #[.float .f32 (highW (faultW L N xs) k), .float .f32 (faultW L N xs k)]).run Try.prog w = .ok (.float .f32 hi) w) ∧ (k = 0 → hi = faultW L N xs k) := by
            refine ⟨_, rfl, fun h0 => ?_, fun h0 => ?_⟩
            · obtain ⟨o, ho, hs⟩ := nw_order (high_nw (f := faultW L N xs) hNW h0) HN.out
              intro ts t w
              rw [run_max_f32 ts t _ _ w o ho hs, eH.out, if_neg (show ¬ k = 0 by omega), show FloatKind.f32.format.order (highW (faultW L N xs) k) (faultW L N xs k) = some o from ho]
              cases o <;> rfl
            · rw [eH.out, if_pos h0, h0]
          have hsame : FloatKind.f32.format.order (faultW L N xs k) (faultW L N xs k) = some .eq := order_refl (by obtain ⟨s, m, i, h⟩ := nw_num HN.out; rw [show FloatKind.f32.format = single from rfl, h]; rfl)
          have Rm := fun ts t w => run_min_f32 ts t _ _ w .eq hsame (fun _ => rfl)
          have Rx := fun ts t w => run_max_f32 ts t _ _ w .eq hsame (fun _ => rfl)
          simp only [reduceCtorEq, if_false] at Rm Rx
          obtain ⟨lo', hlo, hlo1, hlo2⟩ := hmin
          obtain ⟨hi', hhi, hhi1, hhi2⟩ := hmax
          have HLO := hd hlo
          have HHI := hd hhi
          have HO := hd ho
          have HBB := hd hB
          clear hlo hhi ho hB hsame hml hNW HP HT HB KN KY hNO hYES hr p1 p2 p3 p4 p5 p6 p7 q1 q2 hok hq eL eH eF t1 t2 HN
          obtain ⟨e, he⟩ : ∃ e, e = faultW L N xs k := ⟨_, rfl⟩
          rw [← he] at *
          clear he
          generalize lowW (faultW L N xs) k = lo at *
          generalize highW (faultW L N xs) k = hi at *
          generalize mW N (quoW L (xs.getD k 0)) = m at *
          obtain ⟨mk, hmk⟩ : ∃ mk, mk = markW N (quoW L (xs.getD k 0)) := ⟨_, rfl⟩
          rw [← hmk] at eM hmark
          clear hmk
          generalize quoW L (xs.getD k 0) = q at *
          generalize xs.getD k 0 = p at *
          rcases Nat.eq_zero_or_pos k with h0 | h0
          · subst h0
            rw [Nat.add_zero] at hc
            have E1 := hlo2 rfl
            have E2 := hhi2 rfl
            subst E1
            subst E2
            clear hlo1 hhi1 hlo2 hhi2
            by_cases hm : FloatKind.f32.format.order m 1065353216 = some .eq
            · have hmk := hmark.out
              rw [if_pos hm] at hmk
              subst hmk
              go_wp2_with (first
                | (go_at_call 20; first | (refine (P1.out _).mono ?_; rintro e1 w' ⟨rfl, hw⟩; subst hw) | (refine (P5.out _).mono ?_; rintro e1 w' ⟨rfl, hw⟩; subst hw))
                | (at_builtin; go_must (refine wpList_app_float _ _ _ rfl _ _ rfl w.heap.size 0 _ _ rfl (by first | exact HO.out | exact own_more HO.out) rfl _ rfl (by simp) (by omega) (Nat.le_trans HBB.out.size (by simp)) ?_); intro v' w1 ho1 hg1 hap))
              go_roundw
              case rel =>
                refine ⟨0 + 1, by omega, by go_num, by rw [← HLO.out], by rw [← HHI.out], HOK, ?_, below_row hg1 (by first | exact HBB.out | exact below_more HBB.out) (own_row HO.out (Nat.le_refl _))⟩
                rw [eM.out, List.map_append]; exact ho1
              case measure => simp [intOf]; omega
            · have hmk := hmark.out
              rw [if_neg hm] at hmk
              have hm : (FloatKind.f32.format.order m 1065353216 == some .eq) = false := by simpa using hm
              subst hmk
              go_wp2_with (first
                | (go_at_call 20; first | (refine (P1.out _).mono ?_; rintro e1 w' ⟨rfl, hw⟩; subst hw) | (refine (P5.out _).mono ?_; rintro e1 w' ⟨rfl, hw⟩; subst hw))
                | (at_builtin; go_must (refine wpList_app_float _ _ _ rfl _ _ rfl w.heap.size 0 _ _ rfl (by first | exact HO.out | exact own_more HO.out) rfl _ rfl (by simp) (by omega) (Nat.le_trans HBB.out.size (by simp)) ?_); intro v' w1 ho1 hg1 hap))
              go_roundw
              case rel =>
                refine ⟨0 + 1, by omega, by go_num, by rw [← HLO.out], by rw [← HHI.out], HOK, ?_, below_row hg1 (by first | exact HBB.out | exact below_more HBB.out) (own_row HO.out (Nat.le_refl _))⟩
                rw [eM.out, List.map_append]; exact ho1
              case measure => simp [intOf]; omega
          · have E1 := hlo1 h0
            have E2 := hhi1 h0
            clear hlo1 hhi1 hlo2 hhi2 Rm Rx
            have hk0 : ¬ ((k : Int) = 0) := by omega
            by_cases hm : FloatKind.f32.format.order m 1065353216 = some .eq
            · have hmk := hmark.out
              rw [if_pos hm] at hmk
              subst hmk
              go_wp2_with (first
                | (go_at_call 20; first | (refine (P1.out _).mono ?_; rintro e1 w' ⟨rfl, hw⟩; subst hw) | (refine (P5.out _).mono ?_; rintro e1 w' ⟨rfl, hw⟩; subst hw))
                | (at_builtin; go_must (refine wpList_app_float _ _ _ rfl _ _ rfl w.heap.size k _ _ rfl (by first | exact HO.out | exact own_more HO.out) rfl _ rfl (by simp) (by omega) (Nat.le_trans HBB.out.size (by simp)) ?_); intro v' w1 ho1 hg1 hap))
              go_roundw
              case rel =>
                refine ⟨k + 1, by omega, by go_num, by rw [← HLO.out], by rw [← HHI.out], HOK, ?_, below_row hg1 (by first | exact HBB.out | exact below_more HBB.out) (own_row HO.out (Nat.le_refl _))⟩
                rw [eM.out, List.map_append]; exact ho1
              case measure => simp [intOf]; omega
            · have hmk := hmark.out
              rw [if_neg hm] at hmk
              have hm : (FloatKind.f32.format.order m 1065353216 == some .eq) = false := by simpa using hm
              subst hmk
              go_wp2_with (first
                | (go_at_call 20; first | (refine (P1.out _).mono ?_; rintro e1 w' ⟨rfl, hw⟩; subst hw) | (refine (P5.out _).mono ?_; rintro e1 w' ⟨rfl, hw⟩; subst hw))
                | (at_builtin; go_must (refine wpList_app_float _ _ _ rfl _ _ rfl w.heap.size k _ _ rfl (by first | exact HO.out | exact own_more HO.out) rfl _ rfl (by simp) (by omega) (Nat.le_trans HBB.out.size (by simp)) ?_); intro v' w1 ho1 hg1 hap))
              go_roundw
              case rel =>
                refine ⟨k + 1, by omega, by go_num, by rw [← HLO.out], by rw [← HHI.out], HOK, ?_, below_row hg1 (by first | exact HBB.out | exact below_more HBB.out) (own_row HO.out (Nat.le_refl _))⟩
                rw [eM.out, List.map_append]; exact ho1
              case measure => simp [intOf]; omega
      · have e : k = nn := by omega
        subst e
        have hNW := fun j (hj : j < k) => (HT.out j (by omega) (hok.out j hj)).2.2.1
        obtain ⟨d, b, b1, b2, b3, b4, b5⟩ := HB.out _ _ (low_nw (f := faultW L N xs) hNW hlen.1) (high_nw (f := faultW L N xs) hNW hlen.1)
        have HY := hd (hYES.out (KY.out hok.out))
        have D1 := fun w => run_float_arith (P := Try.prog) w .sub 27 .f32 _ _ _ b1
        have D2 := fun w => run_float_arith (P := Try.prog) w .sub 27 .f32 _ _ _ b2
        have HB3 := hd b3
        have HO := hd ho
        have HBB := hd hB
        clear ho hB HP HT HB KN KY hNO hYES hr hNW b1 b2 b3 b4 b5 hok
        generalize bandW g (lowW (faultW L N xs) k) (highW (faultW L N xs) k) = bd at *
        generalize lowW (faultW L N xs) k = lo at *
        generalize highW (faultW L N xs) k = hi at *
        by_cases hb : FloatKind.f32.format.order b 0 = some .lt
        · have E := HB3.out
          rw [if_pos hb] at E
          subst E
          go_wp2
          go_ret3
          rw [WaveOut, HY.out]
          refine ⟨_, rfl, ?_, by first | exact HBB.out | exact below_more HBB.out⟩
          rw [marks_len]
          first | exact HO.out | exact own_more HO.out
        · have E := HB3.out
          rw [if_neg hb] at E
          have hb : (FloatKind.f32.format.order b 0 == some .lt) = false := by simpa using hb
          subst E
          go_wp2
          go_ret3
          rw [WaveOut, HY.out]
          refine ⟨_, rfl, ?_, by first | exact HBB.out | exact below_more HBB.out⟩
          rw [marks_len]
          first | exact HO.out | exact own_more HO.out
end Go.Proofs.Ytpnbjfhcnjdohaa
