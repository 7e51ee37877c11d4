/- Whatever bytes choose tasks, the program's EarlyStarts, LateStarts, SlackOf, FreeSlackOf, LongestWay, CountWays and BehindOf are as the law says: it returns true. No condition. -/
import Derived.Test.YtaeajjfdljpioaaRows
import Derived.Test.YtaeajjfdljpioaaProF
import Derived.Test.YtaeajjfdljpioaaProH
import Derived.Test.YtaeajjfdljpioaaProJ
import Derived.Test.YtaeajjfdljpioaaProM
import Derived.Test.YtaeajjfdljpioaaProQ
import Derived.Test.YtaeajjfdljpioaaProS
import Derived.Deep.CutRange
import Derived.Test.YtaeajjfdljpioaaOpen
import Derived.Test.YtaeajjfdljpioaaOpen2
namespace Go.Proofs.Ytaeajjfdljpioaa.lFnProjects
open Go.ChangeShapes Go.WideShapes Go.ChangeAt Go.RowKit Go.Proofs.Ytaeajjfdljpioaa Plain
set_option linter.unusedVariables false
set_option linter.unusedSimpArgs false
attribute [local go_sem ↓] Go.wp_at_zero Go.wp_at_succ

set_option maxHeartbeats 8000000 in
set_option maxRecDepth 100000 in
theorem walk (w : World) (v0 : Value) (x0 : List Nat) (i0 : ∀ x ∈ x0, x < 256) (s0 : Sl w 1 v0 x0.length (bys x0)) (v1 : Value) (x1 : List Nat) (i1 : ∀ x ∈ x1, x < 256) (s1 : Sl w 1 v1 x1.length (bys x1)) :
    Calls Try.prog 3 #[v0, v1] w fun e w' => e = .returned (.bool true) ∧ Below w.heap.size w w' := by
  have L := hd (b10Long_any v0 v1 x0 x1 w s0 s1)
  have AM := hd (fun w' (h : Below w.heap.size w w') k n hn hn2 hk => b10At_any v1 x1 i1 k n hn hn2 hk w' (s1.below h))
  have BT := hd (fun w' (h : Below w.heap.size w w') N e1 e2 => B10Tasks_any v0 x0 i0 w' (s0.below h) N e1 e2)
  clear s0 s1 i0 i1
  go_enter Try.func3, Try.ntmps3
  go_wp2_with fail
  go_at_call 4
  refine L.out.mono ?_; rintro e w' ⟨bl, rfl, hw⟩; subst w'
  cases bl with
  | true =>
    go_wp2
    go_ret
    exact ⟨rfl, Below.refl _ _⟩
  | false =>
  clear L
  go_wp2_with fail
  go_at_call 5
  refine (AM.out w (Below.refl _ _) 0 8 (by omega) (by omega) (by omega)).mono ?_; rintro e w' ⟨q0, hq, rfl, hw⟩; subst w'
  obtain ⟨n, hn⟩ : ∃ n : Nat, (n : Int) = 1 + (q0 : Int) := ⟨1 + q0, by push_cast; rfl⟩
  have n1 : 1 ≤ n := by omega
  have n8 : n ≤ 8 := by omega
  have hwn : IntKind.i64.wrap (1 + (q0 : Int)) = (n : Int) := by rw [IntWalk.i64_in _ (by omega), hn]
  clear hn hq AM
  go_wp2_with fail
  go_at_call 6
  refine (BT.out w (Below.refl _ _) n n1 (by omega)).mono ?_
  rintro e w1 ⟨ts, b, c, rfl, hta, hbw⟩
  have HT := hd hta
  have HBW := hd hbw
  have OK := hd hta.ok
  have EBD := end_bd hta.ok hta.n9
  have EE := hd (fun i (hi : i < n) => (lastF_le ts (eS ts n) n).2 i hi)
  obtain ⟨at0, ha0, he0, hne0⟩ := first_end hta.ok n1
  have W1 := hd (fun w' h => LongestWay_impl b 0 c ts n w' (HT.out.below h) at0 ha0 he0 hne0)
  have W2 := hd (fun w' h => LongestWay_spec b 0 c ts n w' (HT.out.below h) at0 ha0 he0 hne0)
  have WSL := hd (way_slack hta.ok (e := lastF ts (eS ts n) n) EE.out n at0 ha0 (end_slack hta.ok ha0 he0))
  have WLN := way_len ts (eS ts n) n at0
  obtain ⟨dw, hdw⟩ : ∃ dw, dw = (wayL ts (eS ts n) n at0).reverse := ⟨_, rfl⟩
  rw [← hdw] at W1 W2
  have HDW := hd hdw
  have hdl : dw.length ≤ 9 := by rw [hdw, List.length_reverse]; omega
  obtain ⟨ld, hld⟩ : ∃ ld, ld = dw.length := ⟨_, rfl⟩
  have HLD := hd hld
  rw [← hld] at hdl
  clear hdw hld WLN
  have LT := hd (fun w' h => LateStarts_t b 0 c ts n w' (HT.out.below h) (lastF ts (eS ts n) n) EBD.1 (by omega) (fun i hi => late_ge OK.out EE.out i hi))
  have LF := hd (fun w' h => LateStarts_f b 0 c ts n w' (HT.out.below h) (lastF ts (eS ts n) n - 1) (by omega) (fun _ => ⟨at0, ha0, by
    have := late_end OK.out (e := lastF ts (eS ts n) n - 1) ha0
    omega⟩))
  have WP := waysN_pos hta.ok n1 hta.n9
  have hnc := hta.nc
  clear hwn hta hbw BT he0 hne0 ha0
  go_wp2_with fail
  go_at_call 7
  refine (EarlyStarts_any b 0 c ts n w1 HT.out).mono ?_
  rintro e w2 ⟨gE, rfl, ho2, hb⟩
  have RE := hd (rd_own ho2 (by omega))
  have B2 := hd hb
  clear ho2 hb
  obtain ⟨en, hen⟩ : ∃ en, en = lastF ts (eS ts n) n := ⟨_, rfl⟩
  have HEN := hd hen
  rw [← hen] at EBD EE WSL LT LF ⊢
  clear hen
  go_wp2_with fail
  go_at_call 8
  refine (LT.out w2 B2.out).mono ?_
  rintro e w3 ⟨gL, rfl, ho3, hb⟩
  have RL := hd (rd_own ho3 (by omega))
  have N2 := hd hb
  have B3 := hd (below_tr hb B2.out)
  clear ho3 hb LT
  go_wp2_with fail
  go_at_call 9
  refine (SlackOf_any b 0 c ts n w3 (HT.out.below B3.out)).mono ?_
  rintro e w4 ⟨gS, rfl, ho4, hb⟩
  rw [← HEN.out] at ho4
  have RS := hd (rd_own ho4 (by omega))
  have N3 := hd hb
  have B4 := hd (below_tr hb B3.out)
  clear ho4 hb
  go_wp2_with fail
  go_at_call 10
  refine (FreeSlackOf_any b 0 c ts n w4 (HT.out.below B4.out)).mono ?_
  rintro e w5 ⟨uF, rfl, ho5, hb⟩
  rw [← HEN.out] at ho5
  obtain ⟨gF, cF, rfl, _, _⟩ := own_form ho5 n1
  have RF := hd (rd_own ho5 (by omega))
  have N4 := hd hb
  have B5 := hd (below_tr hb B4.out)
  clear ho5 hb
  go_wp2_with fail
  go_at_call 11
  refine (W1.out w5 B5.out).mono ?_
  rintro e w6 ⟨gW, cW, rfl, ho6, hb⟩
  rw [← HLD.out] at ho6 ⊢
  have RW := hd (rd_own' ho6 (by omega))
  have SW := hd (own_sl ho6 (by unfold maxLen; omega))
  have N5 := hd hb
  have B6 := hd (below_tr hb B5.out)
  clear ho6 hb W1
  go_wp2_with fail
  go_at_call 12
  refine (CountWays_impl b 0 c ts n w6 (HT.out.below B6.out)).mono ?_
  rintro e w7 ⟨rfl, hb⟩
  have N6 := hd hb
  have B7 := hd (below_tr hb B6.out)
  clear hb
  go_wp2_with fail
  go_at_call 13
  refine (BehindOf_any b 0 c ts n w7 (HT.out.below B7.out)).mono ?_
  rintro e w8 ⟨gB, rfl, ho8, hb⟩
  have RB := hd (rd_own ho8 (by omega))
  have N7 := hd hb
  have B8 := hd (below_tr hb B7.out)
  clear ho8 hb
  go_wp2_with fail
  go_at_call 14
  refine (W2.out w8 B8.out).mono ?_
  rintro e w9 ⟨gV, cV, rfl, ho9, hb⟩
  rw [← HLD.out] at ho9 ⊢
  have SV := hd (own_sl ho9 (by unfold maxLen; omega))
  have N8 := hd hb
  have B9 := hd (below_tr hb B8.out)
  clear ho9 hb W2
  go_wp2_with fail
  go_at_call 15
  refine (CountWays_spec b 0 c ts n w9 (HT.out.below B9.out)).mono ?_
  rintro e w10 ⟨rfl, hb⟩
  have N9 := hd hb
  have B10 := hd (below_tr hb B9.out)
  clear hb
  go_wp2_with fail
  go_at_call 16
  refine (AreTasks_any b 0 c ts n w10 (HT.out.below B10.out)).mono ?_
  rintro e w11 ⟨rfl, hb⟩
  have N10 := hd hb
  have B11 := hd (below_tr hb B10.out)
  clear hb
  go_wp2_with fail
  go_at_call 17
  refine (SameTasks_any b 0 c ts n w11 (HT.out.below B11.out)).mono ?_
  rintro e w12 ⟨rfl, hb⟩
  have N11 := hd hb
  have B12 := hd (below_tr hb B11.out)
  clear hb
  have D11 := hd N11.out
  have D10 := hd (below_tr D11.out N10.out)
  have D9 := hd (below_tr D10.out N9.out)
  have D8 := hd (below_tr D9.out N8.out)
  have D7 := hd (below_tr D8.out N7.out)
  have D6 := hd (below_tr D7.out N6.out)
  have D5 := hd (below_tr D6.out N5.out)
  have D4 := hd (below_tr D5.out N4.out)
  have D3 := hd (below_tr D4.out N3.out)
  have D2 := hd (below_tr D3.out N2.out)
  have RE := hd (RE.out.below D2.out)
  have RL := hd (RL.out.below D3.out)
  have RS := hd (RS.out.below D4.out)
  have RF := hd (RF.out.below D5.out)
  have RW := hd (RW.out.below D6.out)
  have RB := hd (RB.out.below D8.out)
  have IS := hd (ints_same _ _ dw ld (by omega) w12 (SW.out.below D6.out) (SV.out.below D9.out))
  clear D11 D10 D9 D8 D7 D6 D5 D4 D3 D2 N2 N3 N4 N5 N6 N7 N8 N9 N10 N11 B2 B3 B4 B5 B6 B7 B8 B9 B10 B11 SW SV
  have WS2 := hd (fun k (hk : k < ld) => (show ∃ j : Nat, dw.getD k 0 = (j : Int) ∧ j < n ∧ lS ts n en j = eS ts n j from WSL.out _ (by
    have hk' : k < dw.length := by rw [← HLD.out]; exact hk
    rw [← List.mem_reverse, ← HDW.out, List.getD_eq_getElem?_getD, List.getElem?_eq_getElem hk']; exact List.getElem_mem hk')))
  clear WSL
  generalize waysN ts n = wn at *
  have hwn1 : ¬ wn < 1 := by omega
  --@a
  go_wp2_with fail
  go_at_call 18
  refine IS.out.mono ?_
  rintro e w13 ⟨rfl, q13, hw13⟩
  have HT := hd (show TA w13 b 0 c ts n by rw [hw13]; exact (HT.out.below B12.out).below (below_drewN (Below.refl _ _) _))
  have BW13 := hd (show Below w.heap.size w w13 by rw [hw13]; exact below_drewN (below_tr B12.out HBW.out) _)
  have B13 := hd (show Below w1.heap.size w1 w13 by rw [hw13]; exact below_drewN B12.out _)
  have RE := hd (show Rd w13 1 _ n _ by rw [hw13]; exact RE.out)
  have RL := hd (show Rd w13 1 _ n _ by rw [hw13]; exact RL.out)
  have RS := hd (show Rd w13 1 _ n _ by rw [hw13]; exact RS.out)
  have RF := hd (show Rd w13 1 _ n _ by rw [hw13]; exact RF.out)
  have RW := hd (show Rd w13 1 _ ld _ by rw [hw13]; exact RW.out)
  have RB := hd (show Rd w13 1 _ n _ by rw [hw13]; exact RB.out)
  clear IS hw13 B12 HBW
  go_upto_region 17 with fail
  have SAE := hd (fun w' (h : Below w13.heap.size w13 w') => (show SA w' (.slice (some ⟨gE, 0, none⟩) n n) (earlyL ts n n) n (-100000) 200000 from ⟨⟨_, _, rfl, Nat.le_refl _, RE.out.below h⟩, fun k hk => by have := early_bd OK.out n (Nat.le_refl _) k; omega⟩))
  have SAL := hd (fun w' (h : Below w13.heap.size w13 w') => (show SA w' (.slice (some ⟨gL, 0, none⟩) n n) (lateL ts n en n) n (-100000) 200000 from ⟨⟨_, _, rfl, Nat.le_refl _, RL.out.below h⟩, fun k hk => by have := late_bd OK.out EBD.1 n (Nat.le_refl _) k; omega⟩))
  have S1 := hd (fun w' h i hi => b10Start_any b 0 c ts n w' (HT.out.below h) _ (earlyL ts n n) (SAE.out w' h) i hi)
  have S2 := hd (fun w' h i hi => b10Start_any b 0 c ts n w' (HT.out.below h) _ (lateL ts n en n) (SAL.out w' h) i hi)
  clear SAE SAL
  go_wp2
  go_loopw [26, 182] (fun lv iv wr => ∃ i : Nat, i ≤ n ∧ iv = .int .i64 i ∧ lv = .int .i64 (lastF ts (eS ts n) i) ∧ Hid (Below w13.heap.size w13 wr)) (fun _ iv _ => n - (intOf iv).toNat)
  case atStart => exact ⟨0, by omega, rfl, rfl, hd (Below.refl _ _)⟩
  case round =>
    obtain ⟨i, hi, rfl, rfl, HB⟩ := hrel
    by_cases hlt : i < n
    · have i2 : (i : Int) < (n : Int) := Int.ofNat_lt.2 hlt
      have L1 := hd (fun q => S1.out (wr.drewN q) (below_drewN HB.out q) i hlt)
      rw [show leastF ts (fun j => (earlyL ts n n).getD j 0) (tkAt ts i) (tkAt ts i).bf.length = eS ts n i from (eS_is OK.out hlt).symm] at L1
      have L2 := hd (fun q => S2.out (wr.drewN q) (below_drewN HB.out q) i hlt)
      have q1 := eS_bd OK.out i
      have q2 := late_ge OK.out EE.out i hlt
      have q3 := late_end OK.out (e := en) hlt
      have q4 := late_least OK.out EE.out hlt
      have q5 := free_ge OK.out EE.out hlt
      have q6 := free_le OK.out EE.out hlt
      have q7 := (lastF_le ts (eS ts n) i).1
      have q8 : lastF ts (eS ts n) i ≤ 200000 := lastF_bd (by omega) fun j hj => by have := eS_bd OK.out j; have := (OK.out j (by omega)).a1; omega
      have a0 := (OK.out i hlt).a0
      have a1 := (OK.out i hlt).a1
      have HLS := hd (show lastF ts (eS ts n) (i + 1) = if lastF ts (eS ts n) i < eS ts n i + (tkAt ts i).a then eS ts n i + (tkAt ts i).a else lastF ts (eS ts n) i by rw [lastF, max_ifT])
      have CE := hd (fun w' (h : Below w13.heap.size w13 w') => (show w'.cell? ⟨gE, i, none⟩ = some (.int .i64 (eS ts n i)) from rd_cell (RE.out.below h) hlt))
      have CL := hd (fun w' (h : Below w13.heap.size w13 w') => (show w'.cell? ⟨gL, i, none⟩ = some (.int .i64 (lS ts n en i)) from rd_cell (RL.out.below h) hlt))
      have CS := hd (fun w' (h : Below w13.heap.size w13 w') => (show w'.cell? ⟨gS, i, none⟩ = some (.int .i64 (lS ts n en i - eS ts n i)) by
        have := rd_cell (RS.out.below h) hlt
        rw [slackL_at ts n en n (Nat.le_refl _), if_pos hlt] at this
        exact this))
      have CF := hd (fun w' (h : Below w13.heap.size w13 w') => (show w'.cell? ⟨gF, i, none⟩ = some (.int .i64 (lateF ts (eS ts n) i en (n - 1 - i) - eS ts n i)) by
        have := rd_cell (RF.out.below h) hlt
        rw [freeL_at ts n en hlt] at this
        exact this))
      have CB := hd (fun w' (h : Below w13.heap.size w13 w') => (show w'.cell? ⟨gB, i, none⟩ = some (.int .i64 (bS ts n i)) from rd_cell (RB.out.below h) hlt))
      have CT := hd (fun w' (h : Below w13.heap.size w13 w') => (HT.out.below h).cl i hlt)
      have BF := hd (bS_is OK.out hlt)
      have OKi := hd (OK.out i hlt)
      have hsh := OKi.out.short
      have BS := hd (fun k => (show behF (bS ts n) (tkAt ts i) (k + 1) = bits .or .i64 (behF (bS ts n) (tkAt ts i) k) (bits .or .i64 (bS ts n (bN (tkAt ts i) k)) (IntKind.i64.wrap (2 ^ bN (tkAt ts i) k))) from rfl))
      have BZ := hd (show behF (bS ts n) (tkAt ts i) 0 = 0 from rfl)
      rw [show leastF ts (lS ts n en) (tkAt ts i) (tkAt ts i).bf.length = leastF ts (fun j => (lateL ts n en n).getD j 0) (tkAt ts i) (tkAt ts i).bf.length from rfl] at q4
      generalize leastF ts (fun j => (lateL ts n en n).getD j 0) (tkAt ts i) (tkAt ts i).bf.length = lb at *
      generalize behF (bS ts n) (tkAt ts i) = F at *
      generalize tkAt ts i = t at *
      generalize lateF ts (eS ts n) i en (n - 1 - i) = f1 at *
      generalize lS ts n en i = l0 at *
      generalize bS ts n i = bi at *
      obtain ⟨e0, he0⟩ : ∃ e0, e0 = eS ts n i := ⟨_, rfl⟩
      rw [← he0] at L1 q1 q2 q5 HLS CE CS CF
      obtain ⟨y0, hy0⟩ : ∃ y0, y0 = lastF ts (eS ts n) i := ⟨_, rfl⟩
      rw [← hy0] at HLS q7 q8 ⊢
      obtain ⟨m, hm⟩ : ∃ m, m = t.bf.length := ⟨_, rfl⟩
      have HM := hd hm
      rw [← hm] at BF hsh
      generalize hta : t.a = ta at *
      have HTA := hd hta
      clear hm he0 hy0 hta
      obtain ⟨z0, hz0⟩ : ∃ z0, z0 = l0 - e0 := ⟨_, rfl⟩
      obtain ⟨f0, hf0⟩ : ∃ f0, f0 = f1 - e0 := ⟨_, rfl⟩
      rw [← hz0] at CS
      rw [← hf0] at CF
      have hw1 : IntKind.i64.wrap (l0 + ta) = l0 + ta := IntWalk.i64_in _ (by omega)
      have hw2 : IntKind.i64.wrap (l0 - e0) = z0 := by rw [IntWalk.i64_in _ (by omega)]; exact hz0.symm
      have hw3 : IntKind.i64.wrap (e0 + ta) = e0 + ta := IntWalk.i64_in _ (by omega)
      have g1 : ¬ l0 < lb := by omega
      have g2 : ¬ en < l0 + ta := by omega
      have g3 : ¬ z0 < 0 := by omega
      have g4 : ¬ f0 < 0 := by omega
      have g5 : ¬ z0 < f0 := by omega
      clear q1 q2 q3 q4 q5 q6 q7 q8 a0 a1 hz0 hf0
      have cE := CE.out wr HB.out
      have cL := CL.out wr HB.out
      have cS := CS.out wr HB.out
      have cF := CF.out wr HB.out
      obtain ⟨Ab, cb, Al, cl, c0, _, c2, _, hb, _⟩ := CT.out wr HB.out
      rw [← HM.out] at c2 hb
      rw [HTA.out] at c0
      have RBf := hd hb
      have k1 : (e0 != e0) = false := by simp
      have k2' : decide (l0 < lb) = false := decide_eq_false g1
      have k3 : decide (en < l0 + ta) = false := decide_eq_false g2
      have k4 : (z0 != z0) = false := by simp
      have k5 : decide (z0 < 0) = false := decide_eq_false g3
      have k6 : decide (f0 < 0) = false := decide_eq_false g4
      have k7 : decide (z0 < f0) = false := decide_eq_false g5
      clear hb c2
      rw [Nat.zero_add] at c0
      go_wp2_with fail
      go_quiet (first
        | (go_at_call_has 19 (Value.slice (some ⟨gE, 0, none⟩) n n); exact (L1.out _).mono fun _ _ h => by (obtain ⟨h1, m', h2⟩ := h; refine ⟨h1, ?_⟩; rw [h2]; first | exact ⟨_, rfl⟩ | (rw [World.drewN_drewN, Nat.add_assoc]; exact ⟨_, rfl⟩) | (rw [World.drewN_drewN]; exact ⟨_, rfl⟩)))
        | (go_at_call_has 19 (Value.slice (some ⟨gL, 0, none⟩) n n); exact (L2.out _).mono fun _ _ h => by (obtain ⟨h1, m', h2⟩ := h; refine ⟨h1, ?_⟩; rw [h2]; first | exact ⟨_, rfl⟩ | (rw [World.drewN_drewN, Nat.add_assoc]; exact ⟨_, rfl⟩) | (rw [World.drewN_drewN]; exact ⟨_, rfl⟩))))
      obtain ⟨wp, hwp⟩ : ∃ wp, wp = wr.drewN nq := ⟨_, rfl⟩
      have HBp := hd (show Below w13.heap.size w13 wp by rw [hwp]; exact below_drewN HB.out _)
      rw [← hwp]
      clear hwp HB L1 L2 cE cL cS cF c0 RBf k1 k2' k3 k4 k5 k6 k7 hw1 hw2 g1 g2 g3 g4 g5
      have cE := CE.out wp HBp.out
      obtain ⟨Ab, cb, Al, cl, c0, _, c2, _, hb, _⟩ := CT.out wp HBp.out
      rw [← HM.out] at c2 hb
      rw [HTA.out, Nat.zero_add] at c0
      have RBf := hd hb
      clear hb
      go_upto_region 22 with fail
      go_quiet (fail)
      generalize (if y0 < e0 + ta then e0 + ta else y0) = mx at *
      obtain ⟨W, hW⟩ : ∃ W, W = wp.drewN nq := ⟨_, rfl⟩
      have HBW := hd (show Below w13.heap.size w13 W by rw [hW]; exact below_drewN HBp.out _)
      have c2W : W.cell? ⟨b, 0 + i * 4 + 2, none⟩ = some (.slice Ab m cb) := by rw [hW]; exact c2
      have RBW := hd (show Rd W 1 Ab m (t.bf.map vi) by rw [hW]; exact RBf.out)
      rw [← hW]
      clear hW cE c0 c2 hw3 HBp RBf
      rw [show 0 + i * 4 + 2 = i * 4 + 2 by omega] at c2W
      go_wp2
      go_loopw [28, 278] (fun av iv wr2 => ∃ k q : Nat, k ≤ m ∧ iv = .int .i64 k ∧ av = .int .i64 (F k) ∧ wr2 = W.drewN q) (fun _ iv _ => m - (intOf iv).toNat)
      case atStart => exact ⟨0, 0, by omega, rfl, by rw [BZ.out], rfl⟩
      case round =>
        obtain ⟨k, q, hk, rfl, rfl, hwr⟩ := hrel
        subst hwr
        by_cases hkm : k < m
        · have k2 : (k : Int) < (m : Int) := Int.ofNat_lt.2 hkm
          have hkl : k < t.bf.length := by have := HM.out; omega
          obtain ⟨bb, ob, rfl, cb'⟩ := RBW.out.int hkm
          rw [OKi.out.cast hkl] at cb'
          have hj := OKi.out.lt hkl
          have hjn : bN t k < n := by omega
          have cJ := (show W.cell? ⟨gB, bN t k, none⟩ = some (.int .i64 (bS ts n (bN t k))) from rd_cell (RB.out.below HBW.out) hjn)
          have bs := BS.out k
          generalize bS ts n (bN t k) = x at *
          generalize bN t k = j at *
          have BSk := hd bs
          obtain ⟨y, hy⟩ : ∃ y, y = F k := ⟨_, rfl⟩
          rw [← hy] at BSk ⊢
          have hj2 : (j : Int) < (n : Int) := Int.ofNat_lt.2 hjn
          have hj0 : ¬ (j : Int) < 0 := by omega
          have hj64 : j < 64 := by omega
          clear hy bs hkl hj
          go_wp2_with fail
          go_quiet (fail)
          clear cb' cJ hj0 hj64 hj2 hjn
          go_wp2
          go_roundw
          case rel => exact ⟨k + 1, q + nq, by omega, by go_num, by rw [BSk.out, IntWalk.i64_left], by first | rfl | rw [World.drewN_drewN]⟩
          case measure => simp [intOf]; omega
        · obtain rfl : m = k := by omega
          have cB := CB.out W HBW.out
          rw [← BF.out]
          clear c2W
          go_wp2
          go_roundw
          case rel => exact ⟨i + 1, by omega, by go_num, by rw [HLS.out], hd (below_drewN HBW.out q)⟩
          case measure => simp [intOf]; omega
    · obtain rfl : n = i := by omega
      rw [← HEN.out]
      clear S1 S2
      go_wp2
      go_loopw [308] (fun iv wr2 => ∃ k : Nat, k ≤ ld ∧ iv = .int .i64 k ∧ wr2 = wr) (fun iv _ => ld - (intOf iv).toNat)
      case atStart => exact ⟨0, by omega, rfl, rfl⟩
      case round =>
        obtain ⟨k, hk, rfl, hw⟩ := hrel
        subst hw
        by_cases hkl : k < ld
        · have k2 : (k : Int) < (ld : Int) := Int.ofNat_lt.2 hkl
          have cW := rd_cell (RW.out.below HB.out) hkl
          obtain ⟨j, hj, hjn, hs⟩ := WS2.out k hkl
          rw [hj] at cW
          have cS := rd_cell (RS.out.below HB.out) hjn
          rw [slackL_at ts n en n (Nat.le_refl _), if_pos hjn, hs, Int.sub_self] at cS
          have hj2 : (j : Int) < (n : Int) := Int.ofNat_lt.2 hjn
          clear hj hs
          go_wp2
          go_roundw
          case rel => exact ⟨k + 1, by omega, by go_num, by first | rfl | trivial⟩
          case measure => simp [intOf]; omega
        · have hwe : IntKind.i64.wrap (en - 1) = en - 1 := IntWalk.i64_in _ (by omega)
          have HBz := hd (below_tr HB.out B13.out)
          go_wp2_with fail
          go_at_call 8
          refine (LF.out wr HBz.out).mono ?_
          rintro e' wz ⟨rfl, hbz⟩
          have HF := hd (below_tr hbz (below_tr HB.out BW13.out))
          clear hbz hwe
          by_cases hen0 : en = 0
          · go_wp2
            go_ret
            exact ⟨by simp [hen0], HF.out⟩
          · go_wp2
            go_ret
            exact ⟨by simp [hen0], HF.out⟩

theorem own : ownKnob Try.prog.godebug = none := by kernel_rfl
theorem laidOut : laidOutB Try.prog = true := by kernel_rfl

set_option maxRecDepth 100000 in
theorem lifted (os : Os) (started : os.Started) (H : Type) (enc : TypeId × Value → H) :
    ReturnsInHanded {} Try.checked os 3 .any (Rows.fnProjectsSpec.pre6 enc Try.prog Try.f3 Rows.fnProjectsRow.domain false) (Rows.fnProjectsSpec.post enc Try.prog Try.f3 false true false false) := by
  refine returnsInHanded_of_change (C := Try.checked) own started (by as_aux_lemma => kernel_rfl) Try.func3
    (ChangeSpec.witness6 (enc := enc) (C := Try.checked) false ⟨#[], #[.slice none 0 0, .slice none 0 0], []⟩ 8 (by as_aux_lemma => kernel_rfl) (by as_aux_lemma => kernel_rfl) (by as_aux_lemma => kernel_rfl) (by as_aux_lemma => kernel_rfl)) ?_
  intro W base args ds gs before hval0 hW hcnd _
  have hval : ∀ (j : Nat) t v, Try.f3.params[j]? = some t → args[j]? = some v → Value.okWide Try.prog W .any base t v := hval0
  have hW' := hW
  obtain ⟨p, q, hA0, hV, rfl, hfz, hnd⟩ := hW
  have hA : DataW.TrodAll enc Try.prog W 0 (fun _ => true) true Try.f3.params.toList args.toList ds p := hA0
  rw [Try.params3] at hA hval
  obtain ⟨v0, vs0, d0, ds0, p0, q0, hargs, rfl, rfl, h0, r0⟩ := trodAll_cons hA
  obtain ⟨v1, vs1, d1, ds1, p1, q1, rfl, rfl, rfl, h1, r1⟩ := trodAll_cons r0
  obtain ⟨rfl, rfl, rfl⟩ := trodAll_nil r1
  obtain rfl : args = #[v0, v1] := by cases args; simp_all
  obtain ⟨rfl, rfl⟩ := trodVars_none hV
  have k0 := h0
  have lt0 : ∀ x ∈ p0, x.block < W.heap.size := by obtain ⟨m, hm⟩ := k0; exact DataW.trod_lt m _ _ _ hm
  obtain ⟨s0, len0, cap0, rfl⟩ := okWide_slice Try.underlying22 (hval 0 22 v0 rfl rfl)
  obtain ⟨x0, _, i0, w0⟩ := arg_bytes Try.underlying22 Try.underlying5 (by as_aux_lemma => kernel_rfl) h0
  have k1 := h1
  have lt1 : ∀ x ∈ p1, x.block < W.heap.size := by obtain ⟨m, hm⟩ := k1; exact DataW.trod_lt m _ _ _ hm
  obtain ⟨s1, len1, cap1, rfl⟩ := okWide_slice Try.underlying22 (hval 1 22 v1 rfl rfl)
  obtain ⟨x1, _, i1, w1⟩ := arg_bytes Try.underlying22 Try.underlying5 (by as_aux_lemma => kernel_rfl) h1
  clear hA0 hval0
  refine (walk W _ x0 i0 w0 _ x1 i1 w1).mono fun e W' ⟨he, bel⟩ => ?_
  subst he
  exact ⟨_, rfl, _, _, _, [], _, [], hW', trodAll_mk1 (shut_bool Try.underlying4 _), (trodAll_cons_mk (Below.trod laidOut (by as_aux_lemma => kernel_rfl) (of_decide_eq_true (by as_aux_lemma => kernel_rfl)) k0 bel lt0) (trodAll_cons_mk (Below.trod laidOut (by as_aux_lemma => kernel_rfl) (of_decide_eq_true (by as_aux_lemma => kernel_rfl)) k1 bel lt1) (trodAll_mk0))), rfl, bel.frame _, fun h => by cases h⟩

/-- The given statement. -/
theorem proved : Rows.FnProjectsSaid :=
  OpenClaim.holds_of_wide 3 Try.f3 rfl rfl rfl rfl rfl rfl rfl ⟨rfl, rfl, rfl, rfl, rfl⟩ rfl rfl rfl rfl rfl (by kernel_rfl) Try.func3 (by kernel_rfl)
    (of_decide_eq_true (by kernel_rfl)) (by unfold Func.isWrapper; first | (rw [if_pos (by decide +kernel)]; kernel_rfl) | (rw [if_neg (by decide +kernel)]; exact ⟨rfl, rfl⟩))
    (fun os started H enc _ => lifted os started H enc)
#print axioms proved

end Go.Proofs.Ytaeajjfdljpioaa.lFnProjects
