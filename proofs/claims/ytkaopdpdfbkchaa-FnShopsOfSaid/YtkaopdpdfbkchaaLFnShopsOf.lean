/- Whatever bytes choose times, routes and turns of a shop, the program's OpenPlan, IsOpenPlan, OpenBound, ShopStarts, IsShopPlan, ShopBound, BestShop and AreRoutes are as the law says: it returns true. No condition. -/
import Derived.Test.YtkaopdpdfbkchaaRows
import Derived.Test.YtkaopdpdfbkchaaShpC
import Derived.Test.YtkaopdpdfbkchaaShpD
import Derived.Test.YtkaopdpdfbkchaaShpE
import Derived.Test.YtkaopdpdfbkchaaShpO
import Derived.Test.YtkaopdpdfbkchaaShpP
import Derived.Test.YtkaopdpdfbkchaaShpX
import Derived.Test.YtkaopdpdfbkchaaShpY
import Derived.Test.YtkaopdpdfbkchaaR8T
import Derived.Deep.CutRange
import Derived.Test.YtkaopdpdfbkchaaOpen
import Derived.Test.YtkaopdpdfbkchaaOpen2
namespace Go.Proofs.Ytkaopdpdfbkchaa.lFnShopsOf
open Go.ChangeShapes Go.WideShapes Go.ChangeAt Go.RowKit Go.Proofs.Ytkaopdpdfbkchaa Plain
set_option linter.unusedVariables false
set_option linter.unusedSimpArgs false
attribute [local go_sem ↓] Go.wp_at_zero Go.wp_at_succ

theorem own_fL {w : World} {base e n : Nat} {u : Value} {l : List Int} {f : Nat → Int} (h : w.ownsRow base e 1 u n (l.map vi)) (hl : l.length = n) (hf : ∀ i, i < n → l.getD i 0 = f i) : w.ownsRow base e 1 u n ((fL n f).map vi) := by
  have e9 : l = fL n f := by
    rw [fL_of l, hl]
    exact fL_same hf
  rw [← e9]; exact h
set_option maxHeartbeats 8000000 in
set_option maxRecDepth 100000 in
theorem walk (w : World) (v0 : Value) (x0 : List Nat) (i0 : ∀ x ∈ x0, x < 256) (s0 : Sl w 1 v0 x0.length (bys x0)) (v1 : Value) (x1 : List Nat) (i1 : ∀ x ∈ x1, x < 256) (s1 : Sl w 1 v1 x1.length (bys x1)) :
    Calls Try.prog 3 #[v0, v1] w fun e w' => e = .returned (.bool true) ∧ Below w.heap.size w w' := by
  have L := hd (r8Long_any v0 v1 x0 x1 w s0 s1)
  have AM := hd (fun w' (h : Below w.heap.size w w') k n hn hn2 hk => r8At_any v1 x1 i1 k n hn hn2 hk w' (s1.below h))
  have AC := hd (fun w' (h : Below w.heap.size w w') k n hn hn2 hk => r8At_any v0 x0 i0 k n hn hn2 hk w' (s0.below h))
  have RT := hd (fun w' (h : Below w.heap.size w w') N e1 => R8Times_any v0 x0 i0 w' (s0.below h) N e1)
  clear s0 s1 i0 i1
  go_enter Try.func3, Try.ntmps3
  go_wp2_with fail
  go_at_call 4
  refine L.out.mono ?_; rintro e w' ⟨rfl, hw⟩; replace hw := hw.symm; subst hw
  generalize (decide (48 < x0.length) || decide (48 < x1.length)) = bl
  cases bl with
  | true =>
    go_wp2
    go_ret
    exact ⟨rfl, Below.refl _ _⟩
  | false =>
  clear L
  go_wp2_with fail
  go_at_call 5
  refine (AM.out w (Below.refl _ _) 40 3 (by omega) (by omega) (by omega)).mono ?_; rintro e w' ⟨rfl, hw⟩; replace hw := hw.symm; subst hw
  have hq := r8F_lt x1 40 (n := 3) (by omega)
  generalize r8F x1 40 3 = q0 at *
  obtain ⟨m, hm⟩ : ∃ m : Nat, (m : Int) = 1 + (q0 : Int) := ⟨1 + q0, by push_cast; rfl⟩
  have m1 : 1 ≤ m := by omega
  have m3 : m ≤ 3 := by omega
  have hwn : IntKind.i64.wrap (1 + (q0 : Int)) = (m : Int) := by rw [IntWalk.i64_in _ (by omega), hm]
  obtain ⟨q8, mn, hq8, hmn1, hmn4, hmnm, hmin⟩ : ∃ q8 mn : Nat, (8 : Int).tdiv (m : Int) = (q8 : Int) ∧ 1 ≤ mn ∧ mn ≤ 4 ∧ mn * m ≤ 8 ∧ (if (q8 : Int) < 4 then (q8 : Int) else 4) = (mn : Int) ∧ q8 ≤ 8 := by
    rcases (show m = 1 ∨ m = 2 ∨ m = 3 by omega) with h | h | h
    · exact ⟨8, 4, by rw [h]; rfl, by omega, by omega, by omega, by simp, by omega⟩
    · exact ⟨4, 4, by rw [h]; rfl, by omega, by omega, by omega, by simp, by omega⟩
    · exact ⟨2, 2, by rw [h]; rfl, by omega, by omega, by omega, by simp, by omega⟩
  obtain ⟨hmin, hq9⟩ := hmin
  have hmi := fun ts ty w => run_min_l ts ty 4 (q8 : Int) w
  rw [hmin] at hmi
  have hm0 : ¬ m = 0 := by omega
  have hmm : ¬ (m : Int) = -1 := by omega
  have hwq : IntKind.i64.wrap (q8 : Int) = (q8 : Int) := IntWalk.i64_in _ (by omega)
  have A41 := hd (AM.out w (Below.refl _ _) 41 mn (by omega) (by omega) (by omega))
  have HMNM := hd hmnm
  clear hm hq hmin hmnm
  go_wp2_with fail
  go_at_call 5
  refine A41.out.mono ?_; rintro e w' ⟨rfl, hw⟩; replace hw := hw.symm; subst hw
  have hq1 := r8F_lt x1 41 (n := mn) (by omega)
  generalize r8F x1 41 mn = q1 at *
  obtain ⟨n, hn⟩ : ∃ n : Nat, (n : Int) = 1 + (q1 : Int) := ⟨1 + q1, by push_cast; rfl⟩
  have n1 : 1 ≤ n := by omega
  have n4 : n ≤ 4 := by omega
  have hnmn : n ≤ mn := by omega
  have hwn2 : IntKind.i64.wrap (1 + (q1 : Int)) = (n : Int) := by rw [IntWalk.i64_in _ (by omega), hn]
  obtain ⟨s, hs⟩ : ∃ s, s = n * m := ⟨_, rfl⟩
  have hs8 : s ≤ 8 := by rw [hs]; exact Nat.le_trans (Nat.mul_le_mul_right m hnmn) HMNM.out
  have hnm : (n : Int) * m = s := by rw [hs]; push_cast; rfl
  have hws : IntKind.i64.wrap (s : Int) = (s : Int) := IntWalk.i64_in _ (by omega)
  have HK := hd (show ShK m n s from ⟨m1, m3, n1, n4, hs, hs8⟩)
  clear hn hq1 hs A41 hmi hq8 hwq hq9 hnmn hmn1 hmn4 HMNM hwn
  go_wp2_with fail
  go_at_call 6
  refine (RT.out w (Below.refl _ _) s (by omega)).mono ?_
  rintro e w1 ⟨l, u, rfl, hl, hbd, ho, hb1⟩
  clear hwn2 RT
  obtain ⟨t, ht⟩ : ∃ t : Nat → Nat, t = fun i => (l.getD i 0).toNat := ⟨_, rfl⟩
  have hlt : ∀ i, i < s → l.getD i 0 = (t i : Int) ∧ 1 ≤ t i ∧ t i ≤ 9 := fun i hi => by
    have hm : l.getD i 0 ∈ l := by
      rw [List.getD_eq_getElem?_getD, List.getElem?_eq_getElem (by omega), Option.getD_some]
      exact List.getElem_mem _
    have := hbd _ hm
    rw [ht]; simp only; omega
  have ho2 := own_fL ho hl (fun i hi => (hlt i hi).1)
  have s1 : 1 ≤ s := HK.out.s1
  obtain ⟨gT, cT, rfl, _, _⟩ := own_form ho2 s1
  have HS1 := hd (show ShT w1 gT cT m n s t from ⟨HK.out, fun i hi => (hlt i hi).2, OwnL.fa ho2 (by omega)⟩)
  have HB1 := hd hb1
  clear ho ho2 hb1 hlt hbd hl ht
  go_wp2_with fail
  go_at_call 7
  refine (OpenPlan_any gT cT m n s t w1 HS1.out).mono ?_
  rintro e w2 ⟨gA, cA, M, a, rfl, hoA, hPL, hb2⟩
  have HB2 := hd (below_tr hb2 HB1.out)
  have HS2 := hd (HS1.out.below hb2)
  have HPL := hd hPL
  have HOA := hd (OwnL.fa hoA (by omega))
  have HM144 := hd (show M ≤ 144 from by have := hPL.hi; have := HS1.out.b72; omega)
  have HA := hd (show ∀ i, i < s → a i ≤ 1000000 from fun i hi => by have := hPL.en i hi; have := HM144.out; omega)
  clear hoA hPL hb2 HB1
  go_wp2_with fail
  go_at_call 8
  refine (IsOpenPlan_any gT cT gA cA m n s t a w2 HS2.out HOA.out HA.out).mono ?_
  rintro e w3 ⟨v, rfl, hv, hb3⟩
  obtain rfl : v = true := hv.2 HPL.out.ap
  have HB3 := hd (below_tr hb3 HB2.out)
  have HS3 := hd (HS2.out.below hb3)
  have HOA3 := hd (HOA.out.below hb3)
  clear hv hb3 HB2 HOA
  go_wp2_with fail
  go_at_call 9
  refine (OpenBound_any gT cT m n s t w3 HS3.out).mono ?_
  rintro e w4 ⟨rfl, hb4⟩
  have HB4 := hd (below_tr hb4 HB3.out)
  have HS4 := hd (HS3.out.below hb4)
  have HOA4 := hd (HOA3.out.below hb4)
  have hBM := HPL.out.lo
  have hBM2 := HPL.out.hi
  have hB72 := HS1.out.b72
  clear hb4 HB3 HS3 HOA3 HS2 HS1
  generalize bndM m s n t m = B at *
  have hM144 := HM144.out
  have d1 : decide ((M : Int) < (B : Int)) = false := decide_eq_false (by omega)
  have d1' : decide (M < B) = false := decide_eq_false (by omega)
  have hw2B : IntKind.i64.wrap (2 * (B : Int)) = 2 * (B : Int) := IntWalk.i64_in _ (by omega)
  have d2 : decide (2 * (B : Int) < (M : Int)) = false := decide_eq_false (by omega)
  have d2' : decide ((M : Int) > 2 * (B : Int)) = false := decide_eq_false (by omega)
  have dss : ((s : Int) != (s : Int)) = false := by simp
  go_wp2_with fail
  clear d1 d2 d1' d2' dss hw2B hm0 hmm hBM hBM2 hB72
  go_loopw [15, 16] (fun ev iv wr => ∃ i q : Nat, i ≤ s ∧ iv = .int .i64 i ∧ ev = .int .i64 (mxE a t i) ∧ wr = w4.drewN q) (fun _ iv _ => s - (intOf iv).toNat)
  case atStart => exact ⟨0, 0, by omega, rfl, rfl, rfl⟩
  case round =>
    obtain ⟨i, q, hi, rfl, rfl, hw⟩ := hrel
    subst hw
    by_cases hlt : i < s
    · have i2 : (i : Int) < (s : Int) := Int.ofNat_lt.2 hlt
      have cA' := HOA4.out.cl i hlt
      have cT' := HS4.out.f.cl i hlt
      rw [Nat.zero_add] at cA' cT'
      unfold natF at cA' cT'
      have hen := HPL.out.en i hlt
      have hwe : IntKind.i64.wrap ((a i : Int) + (t i : Int)) = ((a i + t i : Nat) : Int) := by rw [IntWalk.i64_in _ (by omega)]; push_cast; rfl
      have hmx := fun ts ty w => run_max_s ts ty (mxE a t i) (a i + t i) w
      have HMX := hd (show mxE a t (i + 1) = max (mxE a t i) (a i + t i) from rfl)
      rw [← HMX.out] at hmx
      generalize mxE a t i = mo at *
      obtain ⟨mo2, hmo2⟩ : ∃ mo2, mo2 = mxE a t (i + 1) := ⟨_, rfl⟩
      rw [← hmo2] at hmx
      have HMO2 := hd (show mxE a t (i + 1) = mo2 from hmo2.symm)
      clear hmo2 HMX
      generalize a i = ai at *
      generalize t i = ti at *
      obtain ⟨en, hen2⟩ : ∃ en, en = ai + ti := ⟨_, rfl⟩
      rw [← hen2] at hwe hmx
      clear hen2 hen
      go_wp2
      refine wp_region_quiet_lit (by kernel_rfl) (by kernel_rfl) ?_
      go_big_quiet_step (fail); go_big_quiet_step (fail); go_big_quiet_step (fail); go_big_quiet_step (fail); go_big_quiet_step (fail); go_big_quiet_step (fail)
      go_big_quiet_step (fail); go_big_quiet_step (fail); go_big_quiet_step (fail); go_big_quiet_step (fail); go_big_quiet_step (fail); go_big_quiet_step (fail)
      refine wpQuiet_nil ?_; intro _ hw'; obtain ⟨nq, hw''⟩ := hw'; subst hw''
      clear hmx hwe cA' cT'
      go_wp2
      go_roundw
      case rel => exact ⟨i + 1, _, by omega, by go_num, by rw [HMO2.out], rfl⟩
      case measure => simp [intOf]; omega
    · obtain rfl : s = i := by omega
      have hmM := mxE_is HPL.out.en HPL.out.ex
      rw [hmM]
      have dMM : ((M : Int) != (M : Int)) = false := by simp
      clear hmM
      obtain ⟨w5, hw5⟩ : ∃ w5, w5 = w4.drewN q := ⟨_, rfl⟩
      have HB5 := hd (show Below w.heap.size w w5 by rw [hw5]; exact below_drewN HB4.out q)
      have HS5 := hd (show ShT w5 gT cT m n s t by rw [hw5]; exact HS4.out.below (below_drewN (Below.refl _ _) q))
      have HOA5 := hd (show FA w5 gA 0 cA s (natF a) by rw [hw5]; exact HOA4.out.below (below_drewN (Below.refl _ _) q))
      rw [← hw5]
      clear hw5 HB4 HS4 HOA4
      go_wp2_with fail
      clear dMM
      have HW5 := hd (Below.refl w5.heap.size w5)
      obtain ⟨sh, hsh⟩ : ∃ sh : Nat → Nat, sh = fun i => r8F x1 i m := ⟨_, rfl⟩
      have HSH := hd (fun i => show r8F x1 i m = sh i from by rw [hsh])
      have HSHL := hd (fun i => show sh i < m from by rw [hsh]; exact r8F_lt x1 i (by omega))
      clear hsh
      have o1 := World.ownsRow_made (base := w5.heap.size) (size := 1) w5 #[] 0 (Nat.le_refl _) (by unfold maxLen; omega) rfl (e := 2)
      have o2 := World.ownsRow_made (base := w5.heap.size) (size := 1) (w5.alloc (.cells #[] 2)) #[] 0 (by simp) (by unfold maxLen; omega) rfl (e := 2)
      rw [show (w5.alloc (.cells #[] 2)).heap.size = w5.heap.size + 1 by simp] at o2
      have HR0 := hd (o1.alloc (.cells #[] 2))
      have HT0 := hd o2
      have HD0 := hd (show Dj (.slice (some ⟨w5.heap.size, 0, none⟩) 0 0) (.slice (some ⟨w5.heap.size + 1, 0, none⟩) 0 0) from fun k h1 h2 => by simp [Value.ownBlock] at h1 h2; omega)
      have HB0 := hd (show Below w5.heap.size w5 ((w5.alloc (.cells #[] 2)).alloc (.cells #[] 2)) from by go_grown)
      clear o1 o2
      go_loopw [17, 18, 19] (fun rv tv iv wr => ∃ i : Nat, i ≤ n ∧ iv = .int .i64 i ∧ Hid (wr.ownsRow w5.heap.size 2 1 rv (i * m) ((fL (i * m) (natF (roS m sh))).map vi)) ∧ Hid (wr.ownsRow w5.heap.size 2 1 tv (i * m) ((fL (i * m) (natF (fun x => x / m))).map vi)) ∧ Hid (Dj rv tv) ∧ Hid (Below w5.heap.size w5 wr)) (fun _ _ iv _ => n - (intOf iv).toNat)
      case atStart => exact ⟨0, by omega, rfl, hd (by rw [Nat.zero_mul]; exact HR0.out), hd (by rw [Nat.zero_mul]; exact HT0.out), HD0, HB0⟩
      case round =>
        clear HR0 HT0 HD0 HB0
        obtain ⟨i, hi, rfl, HR, HT, HDJ, HBr⟩ := hrel
        by_cases hlt : i < n
        · have i2 : (i : Int) < (n : Int) := Int.ofNat_lt.2 hlt
          obtain ⟨p, hp⟩ : ∃ p, p = i * m := ⟨_, rfl⟩
          have hpm : p + m ≤ s := by rw [hp, HK.out.e, ← Nat.succ_mul]; exact Nat.mul_le_mul_right m hlt
          have HP := hd hp
          rw [← hp] at HR HT
          clear hp
          have A1 := hd (AM.out wr (below_tr HBr.out HB5.out) i m (by omega) (by omega) (by omega))
          rw [HSH.out] at A1
          have hshl := HSHL.out i
          have HROV := hd (fun k (hk : k < m) => show roS m sh (p + k) = (k + sh i) % m from by unfold roS; rw [HP.out, row_div hk, row_mod hk])
          have HTUV := hd (fun k (hk : k < m) => show (p + k) / m = i from by rw [HP.out, row_div hk])
          generalize sh i = si at *
          go_wp2_with fail
          go_at_call 5
          refine A1.out.mono ?_; rintro e w' ⟨rfl, hw⟩; replace hw := hw.symm; subst hw
          clear A1
          go_wp2_with fail
          obtain ⟨w6, hw6⟩ : ∃ w6, w6 = wr := ⟨_, rfl⟩
          subst hw6
          go_loopw [17, 18, 21] (fun rv tv kv wr => ∃ k : Nat, k ≤ m ∧ kv = .int .i64 k ∧ Hid (wr.ownsRow w5.heap.size 2 1 rv (p + k) ((fL (p + k) (natF (roS m sh))).map vi)) ∧ Hid (wr.ownsRow w5.heap.size 2 1 tv (p + k) ((fL (p + k) (natF (fun x => x / m))).map vi)) ∧ Hid (Dj rv tv) ∧ Hid (Below w5.heap.size w5 wr)) (fun _ _ kv _ => m - (intOf kv).toNat)
          case atStart => exact ⟨0, by omega, rfl, HR, HT, HDJ, HBr⟩
          case round =>
            clear HR HT HDJ HBr
            obtain ⟨k, hk, rfl, HR, HT, HDJ, HBr⟩ := hrel
            by_cases hlk : k < m
            · have k2 : (k : Int) < (m : Int) := Int.ofNat_lt.2 hlk
              have hwa : IntKind.i64.wrap ((k : Int) + (si : Int)) = (k : Int) + (si : Int) := IntWalk.i64_in _ (by omega)
              obtain ⟨z, hz⟩ : ∃ z, z = (k + si) % m := ⟨_, rfl⟩
              have hzm : ((k : Int) + (si : Int)).tmod (m : Int) = (z : Int) := by rw [hz, Int.tmod_eq_emod_of_nonneg (by omega)]; push_cast; rfl
              have HRV := hd (show (natF (roS m sh) (p + k) : Int) = (z : Int) by unfold natF; rw [HROV.out k hlk, hz])
              have HTV := hd (show (natF (fun x => x / m) (p + k) : Int) = (i : Int) by show (((p + k) / m : Nat) : Int) = (i : Int); rw [HTUV.out k hlk])
              have hm0 : ¬ m = 0 := by omega
              have hmm : ¬ (m : Int) = -1 := by omega
              have hszr := HBr.out.size
              clear hz
              go_wp2_with (first
                | (at_builtin; (refine wpList_app_int _ _ _ rfl _ _ rfl w5.heap.size (p + k) _ _ rfl HR.out rfl _ rfl (by simp) (by omega) hszr ?_); intro rv' wa ho1 hg1 hap1; have HRa := hd ho1; have HTa := hd (own_kept HT.out hg1 (dj_symm HDJ.out)); have HDa := hd (dj_symm (hap1 _ (own_in HT.out) (dj_symm HDJ.out))); have HBa := hd (below_row hg1 HBr.out (own_row HR.out (Nat.le_refl _))); have hsza := HBa.out.size; clear ho1 hg1 hap1 HR)
                | (at_builtin; go_must (refine wpList_app_int _ _ _ rfl _ _ rfl w5.heap.size (p + k) _ _ rfl HTa.out rfl _ rfl (by simp) (by omega) hsza ?_); intro tv' wb ho2 hg2 hap2))
              have HR9 := hd (show wb.ownsRow w5.heap.size 2 1 rv' (p + (k + 1)) ((fL (p + (k + 1)) (natF (roS m sh))).map vi) by
                rw [← Nat.add_assoc, fL_succ, List.map_append, HRV.out]
                exact own_kept HRa.out hg2 HDa.out)
              have HT9 := hd (show wb.ownsRow w5.heap.size 2 1 tv' (p + (k + 1)) ((fL (p + (k + 1)) (natF (fun x => x / m))).map vi) by
                rw [← Nat.add_assoc, fL_succ, List.map_append, HTV.out]
                exact ho2)
              have HD9 := hd (hap2 _ (own_in HRa.out) HDa.out)
              have HB9 := hd (below_row hg2 HBa.out (own_row HTa.out (Nat.le_refl _)))
              clear ho2 hg2 hap2 HRa HTa HDa HBa hwa hzm
              go_roundw
              case rel => exact ⟨k + 1, by omega, by go_num, HR9, HT9, HD9, HB9⟩
              case measure => simp [intOf]; omega
            · obtain rfl : m = k := by omega
              have HPS := hd (show p + m = (i + 1) * m by rw [HP.out, Nat.succ_mul])
              go_wp2
              go_roundw
              case rel => exact ⟨i + 1, by omega, by go_num, hd (by rw [← HPS.out]; exact HR.out), hd (by rw [← HPS.out]; exact HT.out), HDJ, HBr⟩
              case measure => simp [intOf]; omega
        · obtain rfl : n = i := by omega
          rw [← HK.out.e] at HR HT
          obtain ⟨gR, cR, rfl, _, _⟩ := own_form HR.out s1
          obtain ⟨gU, cU, rfl, _, _⟩ := own_form HT.out s1
          have hRU : gR ≠ gU := fun e => HDJ.out gR rfl (by rw [e]; rfl)
          have HR1 := hd (show OwnE 2 wr w5.heap.size gR s cR (natF (roS m sh)) from HR.out)
          have HU1 := hd (show OwnE 2 wr w5.heap.size gU s cU (natF (fun x => x / m)) from HT.out)
          have HF1 := hd (show FullR m n (LN (fun x => x / m) s) by rw [HK.out.e]; exact full_start m n m1)
          have hws1 : IntKind.i64.wrap ((s : Int) - 1) = ((s - 1 : Nat) : Int) := by rw [IntWalk.i64_in _ (by omega)]; omega
          have HBr1 := hd HBr.out
          clear HR HT HDJ HBr
          obtain ⟨s1', hs1'⟩ : ∃ s1', s1' = s - 1 := ⟨_, rfl⟩
          rw [← hs1'] at hws1
          have hs1l : s1' < s := by omega
          clear hs1'
          go_wp2_with fail
          clear hws1
          obtain ⟨w6, hw6⟩ : ∃ w6, w6 = wr := ⟨_, rfl⟩
          subst hw6
          go_loopw [22] (fun iv wr => ∃ (i : Nat) (tu : Nat → Nat), i < s ∧ iv = .int .i64 i ∧ Hid (OwnE 2 wr w5.heap.size gR s cR (natF (roS m sh))) ∧ Hid (OwnE 2 wr w5.heap.size gU s cU (natF tu)) ∧ Hid (FullR m n (LN tu s)) ∧ Hid (Below w5.heap.size w5 wr)) (fun iv _ => (intOf iv).toNat)
          case atStart => exact ⟨s1', fun x => x / m, hs1l, rfl, HR1, HU1, HF1, HBr1⟩
          case round =>
            clear HR1 HU1 HF1 HBr1
            obtain ⟨i, tu, hi, rfl, HR, HU, HF, HBr⟩ := hrel
            by_cases hlt : 0 < i
            · have i2 : (i : Int) > 0 := by omega
              have hwi1 : IntKind.i64.wrap ((i : Int) + 1) = ((i + 1 : Nat) : Int) := by rw [IntWalk.i64_in _ (by omega)]; push_cast; rfl
              have A1 := hd (AC.out wr (below_tr HBr.out HB5.out) i (i + 1) (by omega) (by omega) (by omega))
              have hkl := r8F_lt x0 i (n := i + 1) (by omega)
              generalize r8F x0 i (i + 1) = k at *
              have hks : k < s := by omega
              have k2 : (k : Int) < (s : Int) := by omega
              have i3 : (i : Int) < (s : Int) := by omega
              have cI := HU.out.at hi
              have cK := HU.out.at hks
              unfold natF at cI cK
              have HFS := hd (HF.out.swap hi hks)
              have HEQ := hd (show (fun j => if j = k then (tu i : Int) else (if j = i then (tu k : Int) else natF tu j)) = natF (swpR tu i k) from funext fun j => by
                unfold natF swpR
                by_cases e1 : j = k
                · rw [if_pos e1, if_pos e1]
                · rw [if_neg e1, if_neg e1]
                  by_cases e2 : j = i
                  · rw [if_pos e2, if_pos e2]
                  · rw [if_neg e2, if_neg e2])
              have hwm : IntKind.i64.wrap ((i : Int) - 1) = ((i - 1 : Nat) : Int) := by rw [IntWalk.i64_in _ (by omega)]; omega
              obtain ⟨i9, hi9⟩ : ∃ i9, i9 = i - 1 := ⟨_, rfl⟩
              rw [← hi9] at hwm
              have hi9l : i9 < i := by omega
              clear hi9 hkl
              go_wp2_with fail
              go_at_call 5
              refine A1.out.mono ?_; rintro e w' ⟨rfl, hw⟩; replace hw := hw.symm; subst hw
              clear A1 hwi1
              go_wp2_with (first
                | ((with_reducible refine wpList_store_own _ w5.heap.size 2 1 s cU gU _ HU.out size_int i (.int .i64 (tu k : Int)) ?_ ?_ ?_ ?_ ?_); exact rfl; exact rfl; exact rfl; omega; intro wa ho7 hg7; have HUa := hd (show OwnE 2 wa w5.heap.size gU s cU (fun j => if j = i then (tu k : Int) else natF tu j) from OwnE.set ho7 hi); have HRa := hd (HR.out.kept hg7 hRU); have HBa := hd (below_row hg7 HBr.out (own_row HU.out (Nat.le_refl _))); clear ho7 hg7)
                | ((with_reducible refine wpList_store_own _ w5.heap.size 2 1 s cU gU _ HUa.out size_int k (.int .i64 (tu i : Int)) ?_ ?_ ?_ ?_ ?_); exact rfl; exact rfl; exact rfl; omega; intro wb ho8 hg8))
              have HU9 := hd (show OwnE 2 wb w5.heap.size gU s cU (natF (swpR tu i k)) by rw [← HEQ.out]; exact OwnE.set ho8 hks)
              have HR9 := hd (HRa.out.kept hg8 hRU)
              have HB9 := hd (below_row hg8 HBa.out (own_row HUa.out (Nat.le_refl _)))
              clear ho8 hg8 HUa HRa HBa
              go_roundw
              case rel => exact ⟨i9, swpR tu i k, by omega, rfl, HR9, HU9, HFS, HB9⟩
              case measure => simp [intOf]; omega
            · have i2 : ¬ (i : Int) > 0 := by omega
              obtain ⟨ro, hro⟩ : ∃ ro, ro = roS m sh := ⟨_, rfl⟩
              have HRA := hd (fun q => show AllD (fun k => ro (q * m + k)) m by rw [hro]; exact roS_all m sh m1 m3 q)
              have HRO := hd (fun x (hx : x < s) => show ro x < m by rw [hro]; exact Nat.mod_lt _ (by omega))
              rw [← hro] at HR
              clear hro
              have HSA := hd (fun (W : World) (hb : Below wr.heap.size wr W) => (HS5.out.below HBr.out).below hb)
              have HRT := hd (fun (W : World) (hb : Below wr.heap.size wr W) => (show RtT wr gR cR m n s ro from ⟨OwnE.fa HR.out (by omega), fun q _ => HRA.out q⟩).below hb)
              have HUA := hd (fun (W : World) (hb : Below wr.heap.size wr W) => (OwnE.fa HU.out (by omega) : FA wr gU 0 cU s (natF tu)).below hb)
              have HOA' := hd (fun (W : World) (hb : Below wr.heap.size wr W) => (HOA5.out.below HBr.out).below hb)
              have HBW := hd (below_tr HBr.out HB5.out)
              have HRI := hd (fun L (hL : FullR m n L) => RI.b72 (RI.run (t := t) HK.out.e HRO.out L hL.leg) (fun x hx => (HSA.out wr (Below.refl _ _)).r x hx |>.2) hs8)
              have HEN := hd (fun L M' (hL : FullR m n L) (hM : EndR m (runR m ro t L).F M') => show M' ≤ 1000 from by
                obtain ⟨_, k, _, e⟩ := hM
                rw [← e]; exact (HRI.out L hL).2 k)
              obtain ⟨wA, hwA⟩ : ∃ wA, wA = wr := ⟨_, rfl⟩
              subst hwA
              clear HR HU HBr HB5 HS5 HOA5 AM AC
              go_wp2_with fail
              go_at_call 10
              refine (ShopStarts_any gR cR gT cT gU cU m n s ro t tu wA (HRT.out wA (Below.refl _ _)) (HSA.out wA (Below.refl _ _)) (HUA.out wA (Below.refl _ _)) HF.out).mono ?_
              rintro e w7 ⟨gP, cP, M1, rfl, hoP, hE1, hb7⟩
              have HP7 := hd (OwnL.fa hoP (by omega))
              have HB7 := hd hb7
              have HE1 := hd hE1
              clear hoP hE1 hb7
              obtain ⟨a1, ha1⟩ : ∃ a1, a1 = (runR m ro t (LN tu s)).a := ⟨_, rfl⟩
              rw [← ha1] at HP7
              have HA1 := hd ha1
              clear ha1
              have HAB := hd (fun (B' : Nat) (hB : LowR m n s ro t B') => run_done HK.out.e HRO.out HF.out m1 HE1.out hB)
              go_wp2_with fail
              have HLOW0 := hd (show ∃ B', LowR m n s ro t B' from ⟨_, .inl ⟨0, n1, rfl⟩⟩)
              have HPL1 := hd (show PlanR m s ro t a1 ∧ ∀ x, x < s → a1 x + t x ≤ M1 from by
                obtain ⟨B', hB'⟩ := HLOW0.out
                have h := HAB.out B' hB'
                rw [← HA1.out] at h
                exact h.2)
              have HA1B := hd (fun x (hx : x < s) => show a1 x ≤ 1000000 from by
                have := HPL1.out.2 x hx
                have := HEN.out _ M1 HF.out HE1.out
                omega)
              go_at_call 11
              refine (IsShopPlan_any gR cR gT cT gP cP m n s ro t a1 w7 (HRT.out w7 HB7.out) (HSA.out w7 HB7.out) HP7.out HA1B.out).mono ?_
              rintro e w8 ⟨v, rfl, hv, hb8⟩
              obtain rfl : v = true := hv.2 HPL1.out.1
              have HB8 := hd (below_tr hb8 HB7.out)
              have HP8 := hd (HP7.out.below hb8)
              clear hv hb8
              go_wp2_with fail
              go_at_call 12
              refine (ShopBound_any gR cR gT cT m n s ro t w8 (HRT.out w8 HB8.out) (HSA.out w8 HB8.out)).mono ?_
              rintro e w9 ⟨Bl, rfl, hlow, hb9⟩
              have HB9 := hd (below_tr hb9 HB8.out)
              have HP9 := hd (HP8.out.below hb9)
              have HLOW := hd hlow
              clear hlow hb9 HP8
              go_wp2_with fail
              go_at_call 13
              refine (BestShop_any gR cR gT cT m n s ro t (LN tu s) HF.out w9 (HRT.out w9 HB9.out) (HSA.out w9 HB9.out)).mono ?_
              rintro e w10 ⟨gB, cB, Lb, lb, rfl, hoB, hFb, hEb, hmin, hb10⟩
              have HB10 := hd (below_tr hb10 HB9.out)
              have HP10 := hd (HP9.out.below hb10)
              have HFb := hd hFb
              have HEb := hd hEb
              have hlb1 : lb ≤ M1 := hmin (LN tu s) HF.out M1 HE1.out
              have hlb2 : Bl ≤ lb := (run_done HK.out.e HRO.out hFb m1 hEb HLOW.out).1
              have hLs : Lb.length = s := by rw [hFb.len, HK.out.e]
              have HLB := hd (show LN (fun i => Lb.getD i 0) s = Lb by rw [← hLs]; exact LN_lf Lb)
              have HBA := hd (show FA w10 gB 0 cB s (natF fun i => Lb.getD i 0) from OwnE.fa hoB (by omega))
              clear hoB hFb hEb hmin hb10 HP9 hLs
              go_wp2_with fail
              go_at_call 10
              refine (ShopStarts_any gR cR gT cT gB cB m n s ro t (fun i => Lb.getD i 0) w10 (HRT.out w10 HB10.out) (HSA.out w10 HB10.out) HBA.out (by rw [HLB.out]; exact HFb.out)).mono ?_
              rintro e w11 ⟨gS, cS, M2, rfl, hoS, hE2, hb11⟩
              rw [HLB.out] at hE2
              obtain rfl : M2 = lb := hE2.one HEb.out
              have HB11 := hd (below_tr hb11 HB10.out)
              have HP11 := hd (HP10.out.below hb11)
              clear hoS hE2 hb11 HP10 HBA HLB
              have ARv := hd (AreRoutes_any gR cR m n s ro w11 ((HRT.out w11 HB11.out)) HK.out)
              have e1 : decide ((Bl : Int) > (M2 : Int)) = false := decide_eq_false (by omega)
              have e1' : decide ((M2 : Int) < (Bl : Int)) = false := decide_eq_false (by omega)
              have e1'' : decide (M2 < Bl) = false := decide_eq_false (by omega)
              have e2 : decide ((M2 : Int) > (M1 : Int)) = false := decide_eq_false (by omega)
              have e2' : decide ((M1 : Int) < (M2 : Int)) = false := decide_eq_false (by omega)
              have e2'' : decide (M1 < M2) = false := decide_eq_false (by omega)
              have e3 : ((M2 : Int) != (M2 : Int)) = false := by simp
              have e4 : ((s : Int) != (s : Int)) = false := by simp
              go_wp2_with fail
              go_at_call 14
              refine ARv.out.mono ?_
              rintro e w12 ⟨rfl, hb12⟩
              have HB12 := hd (below_tr hb12 HB11.out)
              have HP12 := hd (HP11.out.below hb12)
              clear ARv hb12 HP11
              by_cases hm2 : 1 < m
              · have hm2' : (m : Int) > 1 := by omega
                have hs2 : 2 ≤ s := by rw [HK.out.e]; exact Nat.le_trans hm2 (Nat.le_mul_of_pos_left m (by omega))
                have hs2i : (1 : Int) < (s : Int) := by omega
                have hs0i : (0 : Int) < (s : Int) := by omega
                have HRQ := hd (FA.rd (HP12.out.below ((Below.refl w12.heap.size w12).alloc (Nat.le_refl _) (.cells #[] 2))) (by omega))
                go_wp2_with (first
                  | (at_builtin; (refine wpList_app_all_int _ rfl _ _ rfl w12.heap.size 0 _ _ rfl (World.ownsRow_made (size := 1) w12 #[] 0 (Nat.le_refl _) (by unfold maxLen; omega) rfl (e := 2)) _ s cP (fL s (natF a1)) rfl HRQ.out s1 (by omega) (by simp) ?_); intro v' w13a h1 h2 h3 h4; have h1' : w13a.ownsRow w12.heap.size 2 1 v' s ((fL s (natF a1)).map vi) := (by simpa using h1); obtain ⟨gQ, cQ, rfl, _, _⟩ := own_form h1' s1; have HQQ := hd (show OwnE 2 w13a w12.heap.size gQ s cQ (natF a1) from h1'); have k0 : w13a.cell? ⟨gQ, 0, none⟩ = some (.int .i64 (a1 0 : Int)) := HQQ.out.at (i := 0) s1; have HBQ := hd (show Below w12.heap.size w12 w13a from ((Below.refl _ w12).alloc (Nat.le_refl _) _).grown h2 (by simp) (own_row (World.ownsRow_made (size := 1) w12 #[] 0 (Nat.le_refl _) (by unfold maxLen; omega) rfl (e := 2)) (Nat.le_refl _))); clear h1 h2 h3 h4 h1')
                  | ((with_reducible refine wpList_store_own _ w12.heap.size 2 1 s cQ gQ _ HQQ.out size_int 1 (.int .i64 (a1 0 : Int)) ?_ ?_ ?_ ?_ ?_); exact rfl; exact rfl; exact rfl; omega; intro w13 ho7 hg7))
                have HFQ := hd (show FA w13 gQ 0 cQ s (natF fun x => if x = 1 then a1 0 else a1 x) by
                  have h := OwnE.set ho7 (show 1 < s by omega)
                  rw [natF_set] at h
                  exact OwnE.fa h (by omega))
                have HBQ' := hd (below_row hg7 HBQ.out (own_row HQQ.out (Nat.le_refl _)))
                clear ho7 hg7 k0 HQQ HBQ HRQ
                have HB13 := hd (below_tr HBQ'.out HB12.out)
                have HS13 := hd (HSA.out w13 HB13.out)
                go_wp2_with fail
                go_at_call 11
                refine (IsShopPlan_any gR cR gT cT gQ cQ m n s ro t _ w13 (HRT.out w13 HB13.out) HS13.out HFQ.out (fun x hx => by
                  have h1 := HA1B.out x hx
                  have h0 := HA1B.out 0 (by omega)
                  split <;> omega)).mono ?_
                rintro e w14 ⟨v, rfl, hv, hb14⟩
                obtain rfl : v = false := by
                  cases v with
                  | false => rfl
                  | true =>
                    have h := (hv.1 rfl).sq 1 hs2 (by rw [Nat.mod_eq_of_lt hm2]; omega)
                    have h9 := (HS13.out.r 0 (by omega)).1
                    simp at h
                    omega
                have HB14 := hd (below_tr hb14 HB13.out)
                clear hv hb14 HS13 HFQ HBQ'
                have HO14 := hd (HOA'.out w14 HB14.out)
                have HRZ := hd (FA.rd (HO14.out.below ((Below.refl w14.heap.size w14).alloc (Nat.le_refl _) (.cells #[] 2))) (by omega))
                go_wp2_with (first
                  | (at_builtin; (refine wpList_app_all_int _ rfl _ _ rfl w14.heap.size 0 _ _ rfl (World.ownsRow_made (size := 1) w14 #[] 0 (Nat.le_refl _) (by unfold maxLen; omega) rfl (e := 2)) _ s cA (fL s (natF a)) rfl HRZ.out s1 (by omega) (by simp) ?_); intro v' w15a h1 h2 h3 h4; have h1' : w15a.ownsRow w14.heap.size 2 1 v' s ((fL s (natF a)).map vi) := (by simpa using h1); obtain ⟨gZ, cZ, rfl, _, _⟩ := own_form h1' s1; have HQZ := hd (show OwnE 2 w15a w14.heap.size gZ s cZ (natF a) from h1'); have k0 : w15a.cell? ⟨gZ, 0, none⟩ = some (.int .i64 (a 0 : Int)) := HQZ.out.at (i := 0) s1; have HBZ := hd (show Below w14.heap.size w14 w15a from ((Below.refl _ w14).alloc (Nat.le_refl _) _).grown h2 (by simp) (own_row (World.ownsRow_made (size := 1) w14 #[] 0 (Nat.le_refl _) (by unfold maxLen; omega) rfl (e := 2)) (Nat.le_refl _))); clear h1 h2 h3 h4 h1')
                  | ((with_reducible refine wpList_store_own _ w14.heap.size 2 1 s cZ gZ _ HQZ.out size_int 1 (.int .i64 (a 0 : Int)) ?_ ?_ ?_ ?_ ?_); exact rfl; exact rfl; exact rfl; omega; intro w15 ho7 hg7))
                have HFZ := hd (show FA w15 gZ 0 cZ s (natF fun x => if x = 1 then a 0 else a x) by
                  have h := OwnE.set ho7 (show 1 < s by omega)
                  rw [natF_set] at h
                  exact OwnE.fa h (by omega))
                have HBZ' := hd (below_row hg7 HBZ.out (own_row HQZ.out (Nat.le_refl _)))
                clear ho7 hg7 k0 HQZ HBZ HRZ
                have HB15 := hd (below_tr HBZ'.out HB14.out)
                have HS15 := hd (HSA.out w15 HB15.out)
                go_wp2_with fail
                go_at_call 8
                refine (IsOpenPlan_any gT cT gZ cZ m n s t _ w15 HS15.out HFZ.out (fun x hx => by
                  have h1 := HA.out x hx
                  have h0 := HA.out 0 (by omega)
                  split <;> omega)).mono ?_
                rintro e w16 ⟨v, rfl, hv, hb16⟩
                obtain rfl : v = false := by
                  cases v with
                  | false => rfl
                  | true =>
                    have h := hv.1 rfl 1 0 hs2 (by omega) (.inl (by rw [Nat.div_eq_of_lt hm2, Nat.zero_div]))
                    have h9 := (HS15.out.r 0 (by omega)).1
                    have h8 := (HS15.out.r 1 hs2).1
                    unfold aptS at h
                    simp at h
                    omega
                have HB16 := hd (below_tr hb16 HB15.out)
                clear hv hb16 HS15 HFZ HBZ'
                go_wp2
                go_ret
                exact ⟨rfl, below_tr HB16.out HBW.out⟩
              · have hm2' : ¬ (m : Int) > 1 := by omega
                go_wp2
                go_ret
                exact ⟨rfl, below_tr HB12.out HBW.out⟩

theorem own : ownKnob Try.prog.godebug = none := by kernel_rfl
theorem laidOut : laidOutB Try.prog = true := by kernel_rfl

set_option maxRecDepth 100000 in
theorem lifted (os : Os) (started : os.Started) (H : Type) (enc : TypeId × Value → H) :
    ReturnsInHanded {} Try.checked os 3 .any (Rows.fnShopsOfSpec.pre6 enc Try.prog Try.f3 Rows.fnShopsOfRow.domain false) (Rows.fnShopsOfSpec.post enc Try.prog Try.f3 false true false false) := by
  refine returnsInHanded_of_change (C := Try.checked) own started (by as_aux_lemma => kernel_rfl) Try.func3
    (ChangeSpec.witness6 (enc := enc) (C := Try.checked) false ⟨#[], #[.slice none 0 0, .slice none 0 0], []⟩ 8 (by as_aux_lemma => kernel_rfl) (by as_aux_lemma => kernel_rfl) (by as_aux_lemma => kernel_rfl) (by as_aux_lemma => kernel_rfl)) ?_
  intro W base args ds gs before hval0 hW hcnd _
  have hval : ∀ (j : Nat) t v, Try.f3.params[j]? = some t → args[j]? = some v → Value.okWide Try.prog W .any base t v := hval0
  have hW' := hW
  obtain ⟨p, q, hA0, hV, rfl, hfz, hnd⟩ := hW
  have hA : DataW.TrodAll enc Try.prog W 0 (fun _ => true) true Try.f3.params.toList args.toList ds p := hA0
  rw [Try.params3] at hA hval
  obtain ⟨v0, vs0, d0, ds0, p0, q0, hargs, rfl, rfl, h0, r0⟩ := trodAll_cons hA
  obtain ⟨v1, vs1, d1, ds1, p1, q1, rfl, rfl, rfl, h1, r1⟩ := trodAll_cons r0
  obtain ⟨rfl, rfl, rfl⟩ := trodAll_nil r1
  obtain rfl : args = #[v0, v1] := by cases args; simp_all
  obtain ⟨rfl, rfl⟩ := trodVars_none hV
  have k0 := h0
  have lt0 : ∀ x ∈ p0, x.block < W.heap.size := by obtain ⟨m, hm⟩ := k0; exact DataW.trod_lt m _ _ _ hm
  obtain ⟨s0, len0, cap0, rfl⟩ := okWide_slice Try.underlying22 (hval 0 22 v0 rfl rfl)
  obtain ⟨x0, _, i0, w0⟩ := arg_bytes Try.underlying22 Try.underlying5 (by as_aux_lemma => kernel_rfl) h0
  have k1 := h1
  have lt1 : ∀ x ∈ p1, x.block < W.heap.size := by obtain ⟨m, hm⟩ := k1; exact DataW.trod_lt m _ _ _ hm
  obtain ⟨s1, len1, cap1, rfl⟩ := okWide_slice Try.underlying22 (hval 1 22 v1 rfl rfl)
  obtain ⟨x1, _, i1, w1⟩ := arg_bytes Try.underlying22 Try.underlying5 (by as_aux_lemma => kernel_rfl) h1
  clear hA0 hval0
  refine (walk W _ x0 i0 w0 _ x1 i1 w1).mono fun e W' ⟨he, bel⟩ => ?_
  subst he
  exact ⟨_, rfl, _, _, _, [], _, [], hW', trodAll_mk1 (shut_bool Try.underlying4 _), (trodAll_cons_mk (Below.trod laidOut (by as_aux_lemma => kernel_rfl) (of_decide_eq_true (by as_aux_lemma => kernel_rfl)) k0 bel lt0) (trodAll_cons_mk (Below.trod laidOut (by as_aux_lemma => kernel_rfl) (of_decide_eq_true (by as_aux_lemma => kernel_rfl)) k1 bel lt1) (trodAll_mk0))), rfl, bel.frame _, fun h => by cases h⟩

/-- The given statement. -/
theorem proved : Rows.FnShopsOfSaid :=
  OpenClaim.holds_of_wide 3 Try.f3 rfl rfl rfl rfl rfl rfl rfl ⟨rfl, rfl, rfl, rfl, rfl⟩ rfl rfl rfl rfl rfl (by kernel_rfl) Try.func3 (by kernel_rfl)
    (of_decide_eq_true (by kernel_rfl)) (by unfold Func.isWrapper; first | (rw [if_pos (by decide +kernel)]; kernel_rfl) | (rw [if_neg (by decide +kernel)]; exact ⟨rfl, rfl⟩))
    (fun os started H enc _ => lifted os started H enc)
#print axioms proved

end Go.Proofs.Ytkaopdpdfbkchaa.lFnShopsOf
