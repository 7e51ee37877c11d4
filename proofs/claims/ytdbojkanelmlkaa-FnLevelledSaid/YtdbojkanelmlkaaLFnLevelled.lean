/- Whatever bytes choose tasks, the program's LevelPlan and HastePlan are as the reference's and as the law says: it returns true. No condition. -/
import Derived.Test.YtdbojkanelmlkaaRows
import Derived.Test.YtdbojkanelmlkaaLvlC
import Derived.Test.YtdbojkanelmlkaaB10F
import Derived.Test.YtdbojkanelmlkaaHstS
import Derived.Test.YtdbojkanelmlkaaProG
import Derived.Deep.CutRange
import Derived.Test.YtdbojkanelmlkaaOpen
import Derived.Test.YtdbojkanelmlkaaOpen2
namespace Go.Proofs.Ytdbojkanelmlkaa.lFnLevelled
open Go.ChangeShapes Go.WideShapes Go.ChangeAt Go.RowKit Go.Proofs.Ytdbojkanelmlkaa Plain
set_option linter.unusedVariables false
set_option linter.unusedSimpArgs false
attribute [local go_sem ↓] Go.wp_at_zero Go.wp_at_succ

/-- the first k of the numbers of places from a on -/
def numL (x : List Nat) (a m k : Nat) : List Int := (List.range k).map fun i => (b10F x (a + i) m : Int)
theorem numL_succ (x : List Nat) (a m k : Nat) : numL x a m (k + 1) = numL x a m k ++ [(b10F x (a + k) m : Int)] := by rw [numL, List.range_succ, List.map_append]; rfl
theorem numL_at (x : List Nat) (a m : Nat) {k i : Nat} (h : i < k) : (numL x a m k).getD i 0 = (b10F x (a + i) m : Int) := by
  rw [numL, List.getD_eq_getElem?_getD, List.getElem?_map, List.getElem?_range h]; rfl
theorem run_max_i64 (ts : Array TypeId) (t : TypeId) (a b : Int) (w : World) : (Builtin.max_ ts t #[.int .i64 a, .int .i64 b]).run Try.prog w = .ok (.int .i64 (if a < b then b else a)) w := by
  simp only [Builtin.max_, List.foldlM_cons, List.foldlM_nil, Builtin.max2]
  by_cases h : a < b
  · simp [go_sem, h]
  · simp [go_sem, h]
theorem sl_cell {w : World} {g n c i : Nat} {xs : List Int} (h : Sl w 1 (.slice (some ⟨g, 0, none⟩) n c) n (xs.map vi)) (hi : i < n) : w.cell? ⟨g, i, none⟩ = some (.int .i64 (xs.getD i 0)) := by
  obtain ⟨A, cap, e, _, hr⟩ := h
  cases e
  obtain ⟨b, o, e, hc⟩ := hr.int hi
  cases e
  rw [Nat.zero_add] at hc
  exact hc
theorem numL_len (x : List Nat) (a m k : Nat) : (numL x a m k).length = k := by simp [numL]
set_option maxHeartbeats 8000000 in
set_option maxRecDepth 100000 in
theorem walk (w : World) (v0 : Value) (x0 : List Nat) (i0 : ∀ x ∈ x0, x < 256) (s0 : Sl w 1 v0 x0.length (bys x0)) (v1 : Value) (x1 : List Nat) (i1 : ∀ x ∈ x1, x < 256) (s1 : Sl w 1 v1 x1.length (bys x1)) :
    Calls Try.prog 3 #[v0, v1] w fun e w' => e = .returned (.bool true) ∧ Below w.heap.size w w' := by
  have L := hd (b10Long_any v0 v1 x0 x1 w s0 s1)
  have AM := hd (fun w' (h : Below w.heap.size w w') k n hn hn2 hk => b10At_is v1 x1 i1 k n hn hn2 hk w' (s1.below h))
  have BT := hd (fun w' (h : Below w.heap.size w w') N e1 e2 => B10TasksD_any v0 x0 i0 w' (s0.below h) N e1 e2)
  clear s0 s1 i0 i1
  go_enter Try.func3, Try.ntmps3
  go_wp2_with fail
  go_at_call 4
  refine L.out.mono ?_; rintro e w' ⟨bl, rfl, hw⟩; subst w'
  cases bl with
  | true =>
    go_wp2
    go_ret
    exact ⟨rfl, Below.refl _ _⟩
  | false =>
  clear L
  go_wp2_with fail
  go_at_call 5
  refine (AM.out w (Below.refl _ _) 0 5 (by omega) (by omega) (by omega)).mono ?_; rintro e w' ⟨rfl, hw⟩; subst w'
  have hq := b10F_lt x1 0 (n := 5) (by omega)
  generalize b10F x1 0 5 = q0 at *
  obtain ⟨n, hn⟩ : ∃ n : Nat, (n : Int) = 1 + (q0 : Int) := ⟨1 + q0, by push_cast; rfl⟩
  have n1 : 1 ≤ n := by omega
  have n5 : n ≤ 5 := by omega
  have hwn : IntKind.i64.wrap (1 + (q0 : Int)) = (n : Int) := by rw [IntWalk.i64_in _ (by omega), hn]
  clear hn hq
  go_wp2_with fail
  go_at_call 6
  refine (BT.out w (Below.refl _ _) n n1 (by omega)).mono ?_
  rintro e w1 ⟨ts, b, c, rfl, hta, htd, hbw⟩
  have HT := hd hta
  have HB1 := hd hbw
  have OK := hd hta.ok
  have TD := hd htd
  have EBD := last_small hta.ok htd
  have hnc := hta.nc
  clear hwn hta hbw htd BT
  go_wp2_with fail
  go_at_call 7
  refine (EarlyStartsS_any b 0 c ts n w1 HT.out).mono ?_
  rintro e w2 ⟨gE, rfl, ho2, hb⟩
  have RE := hd (own_sl ho2 (by unfold maxLen; omega))
  have B2 := hd hb
  have HB2 := hd (below_tr hb HB1.out)
  clear ho2 hb
  obtain ⟨en, hen⟩ : ∃ en, en = lastF ts (eS ts n) n := ⟨_, rfl⟩
  have HEN := hd hen
  rw [← hen] at EBD ⊢
  clear hen
  have hq1 := b10F_lt x1 1 (n := 6) (by omega)
  have hq2 := b10F_lt x1 2 (n := 4) (by omega)
  have A1 := hd (fun w' h => AM.out w' h 1 6 (by omega) (by omega) (by omega))
  have A2 := hd (fun w' h => AM.out w' h 2 4 (by omega) (by omega) (by omega))
  generalize b10F x1 1 6 = q1 at *
  generalize b10F x1 2 4 = q2 at *
  obtain ⟨tt, htt⟩ : ∃ tt : Int, tt = en + (q1 : Int) := ⟨_, rfl⟩
  have hwt : IntKind.i64.wrap (en + (q1 : Int)) = tt := by rw [IntWalk.i64_in _ (by omega), htt]
  have htn : en ≤ tt := by omega
  have ht9 : tt ≤ 400 := by omega
  have FE := hd (feas_early OK.out (e := tt) (by rw [← HEN.out]; exact htn))
  have FR := hd (fun r => FE.out.rounds OK.out r)
  have LP := hd (fun w' (h : Below w1.heap.size w1 w') r (hr : r ≤ 8) => LevelPlan_any b 0 c ts n w' (HT.out.below h) tt (by rw [← HEN.out]; exact htn) ht9 r hr)
  have LS := hd (fun w' (h : Below w1.heap.size w1 w') r (hr : r ≤ 8) => LevelPlanS_any b 0 c ts n w' (HT.out.below h) tt (by rw [← HEN.out]; exact htn) ht9 r hr)
  clear htt
  go_wp2_with fail
  go_at_call 5
  refine (A1.out w2 HB2.out).mono ?_; rintro e w' ⟨rfl, hw⟩; subst w'
  go_wp2_with fail
  go_at_call 5
  refine (A2.out w2 HB2.out).mono ?_; rintro e w' ⟨rfl, hw⟩; subst w'
  go_wp2_with fail
  go_at_call 8
  refine (LP.out w2 B2.out q2 (by omega)).mono ?_
  rintro e w3 ⟨u3, rfl, ho3, hb⟩
  have B3 := hd (below_tr hb B2.out)
  have HB3 := hd (below_tr B3.out HB1.out)
  have S3 := hd (own_sl ho3 (by unfold maxLen; omega))
  have RE3 := hd (RE.out.below hb)
  clear ho3 hb hwt RE
  go_wp2_with fail
  go_at_call 5
  refine (A2.out w3 HB3.out).mono ?_; rintro e w' ⟨rfl, hw⟩; subst w'
  go_wp2_with fail
  go_at_call 9
  refine (LS.out w3 B3.out q2 (by omega)).mono ?_
  rintro e w4 ⟨u4, rfl, ho4, hb⟩
  have B4 := hd (below_tr hb B3.out)
  have S4 := hd (own_sl ho4 (by unfold maxLen; omega))
  have S3' := hd (S3.out.below hb)
  have RE4 := hd (RE3.out.below hb)
  clear ho4 hb S3 RE3
  go_wp2_with fail
  go_at_call 8
  refine (LP.out w4 B4.out 0 (by omega)).mono ?_
  rintro e w5 ⟨u5, rfl, ho5, hb⟩
  have B5 := hd (below_tr hb B4.out)
  have HB5 := hd (below_tr B5.out HB1.out)
  have S5 := hd (S3'.out.below hb)
  have S5' := hd (S4.out.below hb)
  have RE5 := hd (RE4.out.below hb)
  have hsq := (FR.out q2).2
  have h0e := hd (show lvlR ts n tt (earlyL ts n n) 0 = earlyL ts n n from rfl)
  rw [h0e.out]
  clear ho5 hb S3' S4 RE4
  obtain ⟨sp, hsp⟩ : ∃ sp, sp = lvlR ts n tt (earlyL ts n n) q2 := ⟨_, rfl⟩
  rw [← hsp] at hsq S5 S5' ⊢
  have HSP := hd hsp
  clear hsp
  have hgt : ¬ sqS ts n sp > sqS ts n (earlyL ts n n) := by omega
  generalize sqS ts n sp = qa at *
  generalize sqS ts n (earlyL ts n n) = qb at *
  have IN := hd (ints_same u3 u4 sp n (by omega) w5 S5.out S5'.out)
  obtain ⟨A3, c3, rfl, hc3, hr3⟩ := S5.out
  obtain ⟨A4, c4, rfl, hc4, hr4⟩ := S5'.out
  obtain ⟨AE, cE, hE, hcE, hrE⟩ := RE5.out
  cases hE
  have HR3 := hd hr3
  clear hr4 hrE hr3
  go_wp2_with (go_at_call 10; refine IN.out.mono ?_; rintro e w' ⟨rfl, q, hw⟩; subst hw)
  have FSP := hd (show Feas ts n tt sp by rw [HSP.out]; exact (FR.out q2).1)
  have SAP := hd (show SA w5 (.slice A3 n c3) sp n (-100000) 200000 from ⟨⟨A3, c3, rfl, hc3, HR3.out⟩, fun k hk => by have := feas_bd OK.out FSP.out hk; omega⟩)
  have BS := hd (fun w' (hb : Below w5.heap.size w5 w') i hi => b10Start_any b 0 c ts n w' (HT.out.below (below_tr hb B5.out)) _ sp (SAP.out.below hb) i hi)
  have SLO := hd (fun i (hi : i < n) => FSP.out.lo i hi)
  have SHI := hd (fun i (hi : i < n) => FSP.out.hi i hi)
  have SBD := hd (fun i (hi : i < n) => feas_bd OK.out FSP.out hi)
  go_loopw [120] (fun iv wr => ∃ k q' : Nat, k ≤ n ∧ iv = .int .i64 k ∧ wr = w5.drewN q') (fun iv _ => n - (intOf iv).toNat)
  case atStart => exact ⟨0, q, by omega, rfl, rfl⟩
  case round =>
    obtain ⟨k, q', hk, rfl, hw⟩ := hrel
    subst hw
    by_cases hlt : k < n
    · have k2 : (k : Int) < (n : Int) := Int.ofNat_lt.2 hlt
      obtain ⟨bs, os, rfl, cs⟩ := HR3.out.int hlt
      obtain ⟨Ab, cb, Al, cl, c0, _⟩ := (HT.out.below B5.out).cl k hlt
      rw [Nat.zero_add] at c0
      have lo := SLO.out k hlt
      have hi := SHI.out k hlt
      have bd := SBD.out k hlt
      obtain ⟨Wk, hWk⟩ : ∃ Wk, Wk = w5.drewN q' := ⟨_, rfl⟩
      have HWk := hd hWk
      have csk : Wk.cell? ⟨bs, os + k, none⟩ = some (.int .i64 (sp.getD k 0)) := by rw [hWk]; exact cs
      have c0k : Wk.cell? ⟨b, k * 4, none⟩ = some (.int .i64 (tkAt ts k).a) := by rw [hWk]; exact c0
      have BSk := hd (fun m => BS.out (Wk.drewN m) (by rw [hWk]; exact below_drewN (below_drewN (Below.refl _ w5) q') m) k hlt)
      rw [← hWk]
      clear hWk cs c0
      have e0 := hd (show lowS ts sp k = leastF ts (fun j => sp.getD j 0) (tkAt ts k) (tkAt ts k).bf.length from rfl)
      rw [← e0.out] at BSk
      have a9 := (TD.out k hlt).a0
      generalize lowS ts sp k = low at *
      generalize sp.getD k 0 = x at *
      generalize (tkAt ts k).a = ta at *
      have hxl : ¬ x < low := by omega
      have w1' : IntKind.i64.wrap (x + ta) = x + ta := IntWalk.i64_in _ (by omega)
      have hxt : ¬ x + ta > tt := by omega
      clear lo hi bd a9
      go_wp2_with fail
      go_quiet ((go_at_call 11; exact (BSk.out _).mono fun _ _ h => by (obtain ⟨h1, m, h2⟩ := h; refine ⟨h1, ?_⟩; rw [h2]; first | exact ⟨_, rfl⟩ | (rw [World.drewN_drewN]; exact ⟨_, rfl⟩))))
      clear csk c0k w1'
      go_wp2
      go_roundw
      case rel => exact ⟨k + 1, q' + nq, by omega, by go_num, by rw [HWk.out, World.drewN_drewN]⟩
      case measure => simp [intOf]; omega
    · obtain rfl : k = n := by omega
      obtain ⟨W6, hW6⟩ : ∃ W6, W6 = w5.drewN q' := ⟨_, rfl⟩
      have B6 := hd (show Below w1.heap.size w1 W6 by rw [hW6]; exact below_drewN B5.out q')
      rw [← hW6]
      clear hW6 SLO SHI SBD BS SAP HR3
      have m1 := (World.ownsRow_made (base := W6.heap.size) (size := 1) W6 #[] 0 (Nat.le_refl _) (by unfold maxLen; omega) rfl (e := 2)).alloc (.cells #[] 2)
      have m2 := World.ownsRow_made (base := W6.heap.size) (size := 1) (W6.alloc (.cells #[] 2)) #[] 0 (by simp) (by unfold maxLen; omega) rfl (e := 2)
      rw [show (W6.alloc (.cells #[] 2)).heap.size = W6.heap.size + 1 by simp] at m2
      have M1 := hd m1
      have M2 := hd m2
      have HB7 := hd (((Below.refl _ W6).alloc (Nat.le_refl _) (.cells #[] 2)).alloc (by simp) (.cells #[] 2))
      clear m1 m2
      go_upto_region 21 with fail
      go_loopw [21, 22, 151] (fun mv cv iv wr => ∃ j : Nat, j ≤ k ∧ iv = .int .i64 j ∧ Hid (wr.ownsRow W6.heap.size 2 1 mv j ((numL x1 3 4 j).map vi)) ∧ Hid (wr.ownsRow W6.heap.size 2 1 cv j ((numL x1 9 9 j).map vi)) ∧ Hid (Dj mv cv) ∧ Hid (Below W6.heap.size W6 wr)) (fun _ _ iv _ => k - (intOf iv).toNat)
      case atStart => exact ⟨0, by omega, rfl, M1, M2, hd (fun g h1 h2 => by simp only [Value.ownBlock, Option.map_some, Option.some.injEq] at h1 h2; omega), HB7⟩
      case round =>
        clear M1 M2 HB7
        obtain ⟨j, hj, rfl, HM, HC, HDJ, HB7⟩ := hrel
        by_cases hjk : j < k
        · have j2 : (j : Int) < (k : Int) := Int.ofNat_lt.2 hjk
          obtain ⟨a3, ha3⟩ : ∃ a3 : Nat, (a3 : Int) = 3 + (j : Int) := ⟨3 + j, by push_cast; rfl⟩
          obtain ⟨a9, ha9⟩ : ∃ a9 : Nat, (a9 : Int) = 9 + (j : Int) := ⟨9 + j, by push_cast; rfl⟩
          have hw3 : IntKind.i64.wrap (3 + (j : Int)) = (a3 : Int) := by rw [IntWalk.i64_in _ (by omega), ha3]
          have hw9 : IntKind.i64.wrap (9 + (j : Int)) = (a9 : Int) := by rw [IntWalk.i64_in _ (by omega), ha9]
          have HS3 := hd (show numL x1 3 4 (j + 1) = numL x1 3 4 j ++ [(b10F x1 a3 4 : Int)] by rw [numL_succ, show 3 + j = a3 by omega])
          have HS9 := hd (show numL x1 9 9 (j + 1) = numL x1 9 9 j ++ [(b10F x1 a9 9 : Int)] by rw [numL_succ, show 9 + j = a9 by omega])
          have C3 := hd (fun w' (h : Below w.heap.size w w') => AM.out w' h a3 4 (by omega) (by omega) (by omega))
          have C9 := hd (fun w' (h : Below w.heap.size w w') => AM.out w' h a9 9 (by omega) (by omega) (by omega))
          have HBw := hd (below_tr HB7.out (below_tr B6.out HB1.out))
          clear ha3 ha9
          generalize b10F x1 a3 4 = y3 at *
          generalize b10F x1 a9 9 = y9 at *
          go_wp2_with fail
          go_at_call 5
          refine (C3.out wr HBw.out).mono ?_; rintro e w' ⟨rfl, hw⟩; subst w'
          go_wp2_with (at_builtin; go_must (refine wpList_app_int _ _ _ rfl _ _ rfl W6.heap.size j _ _ rfl HM.out rfl _ rfl (by simp) (by omega) HB7.out.size ?_); intro v' wa ho1 hg1 hap)
          have HMa := hd (show wa.ownsRow W6.heap.size 2 1 v' (j + 1) ((numL x1 3 4 (j + 1)).map vi) by rw [HS3.out, List.map_append]; exact ho1)
          have HCa := hd (own_kept HC.out hg1 (dj_symm HDJ.out))
          have HDa := hd (dj_symm (hap _ (own_in HC.out) (dj_symm HDJ.out)))
          have HBa := hd (below_row hg1 HB7.out (own_row HM.out (Nat.le_refl _)))
          have HBwa := hd (below_tr HBa.out (below_tr B6.out HB1.out))
          clear ho1 hg1 hap HM HC HDJ HB7 HBw
          go_at_call 5
          refine (C9.out wa HBwa.out).mono ?_; rintro e w' ⟨rfl, hw⟩; subst w'
          go_wp2_with (at_builtin; go_must (refine wpList_app_int _ _ _ rfl _ _ rfl W6.heap.size j _ _ rfl HCa.out rfl _ rfl (by simp) (by omega) HBa.out.size ?_); intro v9 wb ho1 hg1 hap)
          have HCb := hd (show wb.ownsRow W6.heap.size 2 1 v9 (j + 1) ((numL x1 9 9 (j + 1)).map vi) by rw [HS9.out, List.map_append]; exact ho1)
          have HMb := hd (own_kept HMa.out hg1 HDa.out)
          have HDb := hd (hap _ (own_in HMa.out) HDa.out)
          have HBb := hd (below_row hg1 HBa.out (own_row HCa.out (Nat.le_refl _)))
          clear ho1 hg1 hap HMa HCa HDa HBa HBwa
          go_roundw
          case rel => exact ⟨j + 1, by omega, by go_num, HMb, HCb, HDb, HBb⟩
          case measure => simp [intOf]; omega
        · obtain rfl : j = k := by omega
          have A15 := hd (fun w' (h : Below w.heap.size w w') => AM.out w' h 15 5 (by omega) (by omega) (by omega))
          have hq15 := b10F_lt x1 15 (n := 5) (by omega)
          generalize b10F x1 15 5 = q15 at *
          have hwg : IntKind.i64.wrap (en - (q15 : Int)) = en - (q15 : Int) := IntWalk.i64_in _ (by omega)
          have HBw := hd (below_tr HB7.out (below_tr B6.out HB1.out))
          go_wp2_with fail
          go_at_call 5
          refine (A15.out wr HBw.out).mono ?_; rintro e w' ⟨rfl, hw⟩; subst w'
          obtain ⟨gl, hgl⟩ : ∃ gl : Int, gl = if 0 < en - (q15 : Int) then en - (q15 : Int) else 0 := ⟨_, rfl⟩
          have gl0 : 0 ≤ gl := by rw [hgl]; split <;> omega
          have gl1 : gl ≤ 100000 := by rw [hgl]; split <;> omega
          obtain ⟨gM, cM, rfl, _, _⟩ := own_form HM.out n1
          obtain ⟨gK, cK, rfl, _, _⟩ := own_form HC.out n1
          have SM := own_sl HM.out (by unfold maxLen; omega)
          have SK := own_sl HC.out (by unfold maxLen; omega)
          have MB := hd (fun i (hi : i < j) => (show 0 ≤ (numL x1 3 4 j).getD i 0 ∧ (numL x1 3 4 j).getD i 0 ≤ 3 by
            rw [numL_at x1 3 4 hi]; have := b10F_lt x1 (3 + i) (n := 4) (by omega); omega))
          have KB := hd (fun i (hi : i < j) => (show 0 ≤ (numL x1 9 9 j).getD i 0 ∧ (numL x1 9 9 j).getD i 0 ≤ 1000 by
            rw [numL_at x1 9 9 hi]; have := b10F_lt x1 (9 + i) (n := 9) (by omega); omega))
          have HTw := hd (HT.out.below (below_tr HB7.out B6.out))
          obtain ⟨most, hmost⟩ : ∃ l, l = numL x1 3 4 j := ⟨_, rfl⟩
          obtain ⟨costs, hcosts⟩ : ∃ l, l = numL x1 9 9 j := ⟨_, rfl⟩
          have hll : most.length = j ∧ costs.length = j := ⟨by rw [hmost, numL_len], by rw [hcosts, numL_len]⟩
          rw [← hmost] at SM MB
          rw [← hcosts] at SK KB
          have SMH := hd SM
          have SKH := hd SK
          have HP1 := hd (fun w' (h : Below wr.heap.size wr w') => HastePlan_any b c ts j w' (HTw.out.below h) _ _ most costs (SMH.out.below h) (SKH.out.below h) n5 MB.out KB.out gl gl0 gl1)
          have HP2 := hd (fun w' (h : Below wr.heap.size wr w') => HastePlanS_any b c ts j w' (HTw.out.below h) _ _ most costs (SMH.out.below h) (SKH.out.below h) n5 MB.out KB.out gl gl0 gl1)
          clear hmost hcosts gl0 gl1 SM SK
          have hmx := fun ts t w => run_max_i64 ts t 0 (en - (q15 : Int)) w
          rw [← hgl] at hmx
          have HGL := hd hgl
          clear hgl
          go_wp2_with fail
          go_at_call 12
          refine (HP1.out wr (Below.refl _ _)).mono ?_
          rintro e wa ⟨hba, hpa⟩
          have HBA := hd hba
          have HPA := hd hpa
          clear hba hpa
          clear hmx
          have OKj := hd OK.out
          cases hr : hIx ts most costs j gl with
          | none =>
            have hpa := HPA.out
            rw [hr] at hpa
            obtain rfl := hpa
            have hlt := hIx_none OKj.out hr
            rw [← HEN.out] at hlt
            have HR := hd hr
            clear HPA hr
            go_wp2_with fail
            go_at_call 13
            refine (HP2.out wa HBA.out).mono ?_
            rintro e wb ⟨hbb, hpb⟩
            rw [HR.out] at hpb
            obtain rfl := hpb
            have HBB := hd (below_tr (below_tr hbb HBA.out) HBw.out)
            clear hbb
            go_wp2
            go_ret
            exact ⟨rfl, HBB.out⟩
          | some t =>
            have hpa := HPA.out
            rw [hr] at hpa
            obtain ⟨V, rfl, hoV⟩ := hpa
            obtain ⟨wT, hwT⟩ : ∃ wT, wT = wr := ⟨_, rfl⟩
            subst hwT
            have hend := hd (hIx_some hr)
            have HR := hd hr
            clear HPA hr
            obtain ⟨gV, cV, rfl, hgV, _⟩ := own_form hoV n1
            have HOV := hd hoV
            clear hoV
            go_wp2_with fail
            go_at_call 13
            refine (HP2.out wa HBA.out).mono ?_
            rintro e wb ⟨hbb, hpb⟩
            rw [HR.out] at hpb
            obtain ⟨V', rfl, hoV'⟩ := hpb
            have HBB := hd (below_tr hbb HBA.out)
            have HOVb := hd (own_below HOV.out hbb)
            have IN2 := hd (ints_same _ _ (fnL j fun i => (cutN ts most j t i : Int)) j (by omega) wb (own_sl HOVb.out (by unfold maxLen; omega)) (own_sl hoV' (by unfold maxLen; omega)))
            obtain ⟨gV', cV', rfl, _, _⟩ := own_form hoV' n1
            clear hbb hoV' HOV HP1 HP2
            have hshl : ∀ (X : World), Below wT.heap.size wT X → tkCells X b 0 j = shCells wT b 0 j ts fun m => if m < 0 then (cutN ts most j t m : Int) else 0 := fun X hX => by
              rw [shCells_same wT b 0 j ts (u := fun m => if m < 0 then (cutN ts most j t m : Int) else 0) (v := fun _ => 0) (fun i _ => by simp), ← shCells_zero HTw.out, tkCells, tkCells]
              refine List.map_congr_left fun m hm => ?_
              rw [List.mem_range] at hm
              have hl : m < (tkCells wT b 0 j).length := by rw [tkCells_len]; exact hm
              have h1 := HTw.out.cells m _ (List.getElem?_eq_getElem hl)
              rw [h1.1, below_at hX h1.1]
            have HSHL := hd hshl
            clear hshl
            go_wp2_with (first
              | (go_at_call 10; refine IN2.out.mono ?_; rintro e W7 ⟨rfl, q, hw⟩; have HB7 := hd (show Below wT.heap.size wT W7 by rw [hw]; exact below_drewN HBB.out q); have HOV7 := hd (show W7.ownsRow wT.heap.size 2 1 (.slice (some ⟨gV, 0, none⟩) j cV) j ((fnL j fun i => (cutN ts most j t i : Int)).map vi) by rw [hw]; exact HOVb.out); clear hw)
              | (at_builtin; go_must (refine wpList_app_all_task _ rfl _ _ rfl W7.heap.size _ rfl (World.ownsRow_made (size := 4) W7 #[] 0 (Nat.le_refl _) (by unfold maxLen; omega) rfl (e := 34)) b 0 j c _ rfl (HTw.out.below (HB7.out.alloc HB7.out.size _)) (by simp) ?_); intro v' w5 h1 h2))
            rw [HSHL.out _ (HB7.out.alloc HB7.out.size _)] at h1
            obtain ⟨gN, cN, rfl, hgN, _⟩ := own_form h1 n1
            have HN5 := hd h1
            have HB5 := hd (show Below W7.heap.size W7 w5 from ((Below.refl W7.heap.size W7).alloc (Nat.le_refl _) _).grown h2 (by simp) (fun q e => by cases e; exact Nat.le_refl _))
            clear h1 h2 HSHL hgN IN2 HOVb HBB
            have C0 := hd (show hCo ts most costs j t 0 = 0 from rfl)
            have CS := hd (fun k => (show hCo ts most costs j t (k + 1) = hCo ts most costs j t k + (cutN ts most j t k : Int) * costs.getD k 0 from rfl))
            have CBt := hd (fun k hk => hCo_bd OKj.out MB.out KB.out t k hk)
            have CUT := hd (cut_ok OKj.out (fun i hi => (MB.out i hi).1) t)
            obtain ⟨co, hco⟩ : ∃ co, co = hCo ts most costs j t := ⟨_, rfl⟩
            rw [← hco] at C0 CS CBt ⊢
            clear hco
            obtain ⟨cnx, hcnx⟩ : ∃ z, z = co j := ⟨_, rfl⟩
            rw [← hcnx]
            have HCN := hd hcnx
            clear hcnx
            go_simp
            go_wp2_with fail
            go_loopw [32, 214] (fun cv iv wr => ∃ i : Nat, i ≤ j ∧ iv = .int .i64 i ∧ cv = .int .i64 (co i) ∧ Hid (wr.ownsRow W7.heap.size 34 4 (.slice (some ⟨gN, 0, none⟩) j cN) j (shCells wT b 0 j ts fun m => if m < i then (cutN ts most j t m : Int) else 0)) ∧ Hid (Below W7.heap.size W7 wr)) (fun _ iv _ => j - (intOf iv).toNat)
            case atStart => exact ⟨0, by omega, rfl, by rw [C0.out], HN5, HB5⟩
            case round =>
              clear HN5 HB5
              obtain ⟨i, hi, rfl, rfl, HN, HBx⟩ := hrel
              by_cases hlt : i < j
              · have i2 : (i : Int) < (j : Int) := Int.ofNat_lt.2 hlt
                have hgN := (World.ownsRow.lt HN.out gN rfl)
                have cT := HN.out.cellAt (i * 4) (by omega)
                rw [shCells_at wT b 0 ts _ (show i * 4 < j * 4 by omega), if_pos (by omega), show i * 4 / 4 = i by omega, if_neg (by omega), Int.sub_zero] at cT
                have cVr := HOV7.out.cellAt i (by omega)
                rw [List.getElem?_map, fnL, List.getElem?_map, List.getElem?_range hlt] at cVr
                simp only [Option.map_some, vi] at cVr
                have cV1 := hd (fun (w' : World) (h : Below wr.heap.size wr w') => below_at h (below_at HBx.out cVr))
                have HBT := hd (below_tr HBx.out HB7.out)
                have cM1 := sl_cell (SMH.out.below HBT.out) hlt
                have cK1 := hd (fun (w' : World) (h : Below wr.heap.size wr w') => sl_cell (SKH.out.below (below_tr h HBT.out)) hlt)
                have cu := CUT.out i hlt
                have cb1 := CBt.out i (by omega)
                have cb2 := CBt.out (i + 1) (by omega)
                have cs := CS.out i
                have oi := OKj.out i hlt
                have SETS := hd (show (shCells wT b 0 j ts fun m => if m < i then (cutN ts most j t m : Int) else 0).set (i * 4) (.int .i64 ((tkAt ts i).a - (cutN ts most j t i : Int))) = shCells wT b 0 j ts fun m => if m < i + 1 then (cutN ts most j t m : Int) else 0 by
                  rw [shCells_set wT b 0 ts _ hlt]
                  refine shCells_same wT b 0 j ts fun m _ => ?_
                  by_cases h : m = i
                  · subst h; rw [if_pos rfl, if_pos (by omega)]
                  · rw [if_neg h]
                    by_cases h2 : m < i
                    · rw [if_pos h2, if_pos (by omega)]
                    · rw [if_neg h2, if_neg (by omega)])
                have h4 := (KB.out i hlt).2
                have h3 := (KB.out i hlt).1
                have m3 := (MB.out i hlt).2
                have ta0 := oi.a0
                have ta1 := oi.a1
                generalize (tkAt ts i).a = ta at *
                generalize (cutN ts most j t i : Int) = cc at *
                generalize costs.getD i 0 = cst at *
                generalize most.getD i 0 = mi at *
                have c3 : cc ≤ 3 := Int.le_trans cu.2.2 m3
                have hm0 : 0 ≤ cc * cst := Int.mul_nonneg cu.1 h3
                have hm1 : cc * cst ≤ 3 * 1000 := Int.mul_le_mul c3 (by omega) h3 (by omega)
                have hwa := hd (show IntKind.i64.wrap (ta - cc) = ta - cc from IntWalk.i64_in _ (by omega))
                have hwb := hd (show IntKind.i64.wrap (cc * cst) = cc * cst from IntWalk.i64_in _ (by omega))
                have hwc := hd (show IntKind.i64.wrap (co i + cc * cst) = co (i + 1) by rw [← cs]; exact IntWalk.i64_in _ (by omega))
                have d1 : decide (cc < 0) = false := decide_eq_false (by omega)
                have d2 : decide (mi < cc) = false := decide_eq_false (by omega)
                have cV1a := cV1.out wr (Below.refl _ _)
                have HcT := hd (fun (w' : World) (h : Below wr.heap.size wr w') => below_at h cT)
                clear cVr cu cb1 cb2 cs oi h3 h4 m3 ta0 ta1 c3 hm0 hm1 cT
                go_wp2_with fail
                go_quiet (fail)
                clear cM1 d1 d2 cV1a
                have HB8 := hd (below_drewN (Below.refl wr.heap.size wr) nq)
                have HN8 := hd (own_below HN.out HB8.out)
                obtain ⟨W8, hW8⟩ : ∃ W8, W8 = wr.drewN nq := ⟨_, rfl⟩
                rw [← hW8] at HB8 HN8 ⊢
                clear hW8
                have cV8 := cV1.out W8 HB8.out
                have cT8 := HcT.out W8 HB8.out
                have hwa' := hwa.out
                go_wp2_with fail
                go_still_tail 12, (by kernel_rfl)
                change wpList _ _ _ _ _ W8.drew
                have HN7 := hd (show W8.drew.ownsRow W7.heap.size 34 4 (.slice (some ⟨gN, 0, none⟩) j cN) j (shCells wT b 0 j ts fun m => if m < i then (cutN ts most j t m : Int) else 0) from HN8.out)
                go_wp2_with ((with_reducible refine wpList_store_own _ W7.heap.size 34 4 j cN gN _ HN7.out size_int (i * 4) (.int .i64 (ta - cc)) ?_ ?_ ?_ ?_ ?_); exact rfl; exact rfl; exact rfl; omega; intro w7 ho7 hg7)
                rw [SETS.out] at ho7
                have HN9 := hd ho7
                have HB9 := hd (show Below W7.heap.size W7 w7 from (below_tr HB8.out HBx.out).drew.grown hg7 (Nat.le_trans HBx.out.size HB8.out.size) (fun q e => by cases e; exact hgN.1))
                have cV9 := hg7.cell (show W8.drew.cell? ⟨gV, i, none⟩ = some (.int .i64 cc) from cV8) (by have := (World.ownsRow.lt HOV7.out gV rfl).2; simp; omega)
                have cK9 := hg7.cell (show W8.drew.cell? ⟨gK, i, none⟩ = some (.int .i64 cst) from cK1.out W8 HB8.out) (by have := HB7.out.size; simp; omega)
                have hwb' := hwb.out
                have hwc' := hwc.out
                clear ho7 hg7 HN7 HN8 HN HBx cV8 cT8 hwa' HB8 cV1 HcT
                go_wp2_with fail
                go_quiet (fail)
                clear cV9 cK9 hwb' hwc'
                go_wp2_with fail
                go_roundw
                case rel => exact ⟨i + 1, by omega, by go_num, rfl, hd HN9.out, hd (below_drewN HB9.out _)⟩
                case measure => simp [intOf]; omega
              · obtain rfl : j = i := by omega
                have HNT := HN.out
                rw [shCells_same wT b 0 j ts (u := fun m => if m < j then (cutN ts most j t m : Int) else 0) (v := fun m => (cutN ts most j t m : Int)) (fun m hm => by rw [if_pos hm])] at HNT
                have hcN : j ≤ cN := (own_sl HNT (by unfold maxLen; omega)).elim fun A h => h.elim fun c h => by cases h.1; exact h.2.1
                have hts := ta_short HTw.out (below_tr HBx.out HB7.out) (fun m hm => by have := CUT.out m hm; exact ⟨this.1, this.2.1⟩) HNT hcN
                have ES := hd (EarlyStarts_any gN 0 cN _ j wr hts)
                have hle := hend.out
                have HBZ := hd (below_tr (below_tr HBx.out HB7.out) HBw.out)
                obtain ⟨le, hlee⟩ : ∃ le, le = lastF (shortT ts j fun i => (cutN ts most j t i : Int)) (eS (shortT ts j fun i => (cutN ts most j t i : Int)) j) j := ⟨_, rfl⟩
                rw [← hlee] at hle
                have HLE := hd hlee
                clear hlee HNT hts
                rw [← HCN.out]
                go_wp2_with fail
                go_at_call 14
                refine ES.out.mono ?_
                rintro e wz ⟨gz, rfl, _, hbz⟩
                rw [← HLE.out]
                have HBZ2 := hd (below_tr hbz HBZ.out)
                clear hbz
                have heq : (cnx == cnx) = true := by simp
                go_wp2
                go_ret
                exact ⟨rfl, HBZ2.out⟩

theorem own : ownKnob Try.prog.godebug = none := by kernel_rfl
theorem laidOut : laidOutB Try.prog = true := by kernel_rfl

set_option maxRecDepth 100000 in
theorem lifted (os : Os) (started : os.Started) (H : Type) (enc : TypeId × Value → H) :
    ReturnsInHanded {} Try.checked os 3 .any (Rows.fnLevelledSpec.pre6 enc Try.prog Try.f3 Rows.fnLevelledRow.domain false) (Rows.fnLevelledSpec.post enc Try.prog Try.f3 false true false false) := by
  refine returnsInHanded_of_change (C := Try.checked) own started (by as_aux_lemma => kernel_rfl) Try.func3
    (ChangeSpec.witness6 (enc := enc) (C := Try.checked) false ⟨#[], #[.slice none 0 0, .slice none 0 0], []⟩ 8 (by as_aux_lemma => kernel_rfl) (by as_aux_lemma => kernel_rfl) (by as_aux_lemma => kernel_rfl) (by as_aux_lemma => kernel_rfl)) ?_
  intro W base args ds gs before hval0 hW hcnd _
  have hval : ∀ (j : Nat) t v, Try.f3.params[j]? = some t → args[j]? = some v → Value.okWide Try.prog W .any base t v := hval0
  have hW' := hW
  obtain ⟨p, q, hA0, hV, rfl, hfz, hnd⟩ := hW
  have hA : DataW.TrodAll enc Try.prog W 0 (fun _ => true) true Try.f3.params.toList args.toList ds p := hA0
  rw [Try.params3] at hA hval
  obtain ⟨v0, vs0, d0, ds0, p0, q0, hargs, rfl, rfl, h0, r0⟩ := trodAll_cons hA
  obtain ⟨v1, vs1, d1, ds1, p1, q1, rfl, rfl, rfl, h1, r1⟩ := trodAll_cons r0
  obtain ⟨rfl, rfl, rfl⟩ := trodAll_nil r1
  obtain rfl : args = #[v0, v1] := by cases args; simp_all
  obtain ⟨rfl, rfl⟩ := trodVars_none hV
  have k0 := h0
  have lt0 : ∀ x ∈ p0, x.block < W.heap.size := by obtain ⟨m, hm⟩ := k0; exact DataW.trod_lt m _ _ _ hm
  obtain ⟨s0, len0, cap0, rfl⟩ := okWide_slice Try.underlying22 (hval 0 22 v0 rfl rfl)
  obtain ⟨x0, _, i0, w0⟩ := arg_bytes Try.underlying22 Try.underlying5 (by as_aux_lemma => kernel_rfl) h0
  have k1 := h1
  have lt1 : ∀ x ∈ p1, x.block < W.heap.size := by obtain ⟨m, hm⟩ := k1; exact DataW.trod_lt m _ _ _ hm
  obtain ⟨s1, len1, cap1, rfl⟩ := okWide_slice Try.underlying22 (hval 1 22 v1 rfl rfl)
  obtain ⟨x1, _, i1, w1⟩ := arg_bytes Try.underlying22 Try.underlying5 (by as_aux_lemma => kernel_rfl) h1
  clear hA0 hval0
  refine (walk W _ x0 i0 w0 _ x1 i1 w1).mono fun e W' ⟨he, bel⟩ => ?_
  subst he
  exact ⟨_, rfl, _, _, _, [], _, [], hW', trodAll_mk1 (shut_bool Try.underlying4 _), (trodAll_cons_mk (Below.trod laidOut (by as_aux_lemma => kernel_rfl) (of_decide_eq_true (by as_aux_lemma => kernel_rfl)) k0 bel lt0) (trodAll_cons_mk (Below.trod laidOut (by as_aux_lemma => kernel_rfl) (of_decide_eq_true (by as_aux_lemma => kernel_rfl)) k1 bel lt1) (trodAll_mk0))), rfl, bel.frame _, fun h => by cases h⟩

/-- The given statement. -/
theorem proved : Rows.FnLevelledSaid :=
  OpenClaim.holds_of_wide 3 Try.f3 rfl rfl rfl rfl rfl rfl rfl ⟨rfl, rfl, rfl, rfl, rfl⟩ rfl rfl rfl rfl rfl (by kernel_rfl) Try.func3 (by kernel_rfl)
    (of_decide_eq_true (by kernel_rfl)) (by unfold Func.isWrapper; first | (rw [if_pos (by decide +kernel)]; kernel_rfl) | (rw [if_neg (by decide +kernel)]; exact ⟨rfl, rfl⟩))
    (fun os started H enc _ => lifted os started H enc)
#print axioms proved

end Go.Proofs.Ytdbojkanelmlkaa.lFnLevelled
