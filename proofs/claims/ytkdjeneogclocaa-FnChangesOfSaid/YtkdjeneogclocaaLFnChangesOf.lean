/- Whatever bytes choose costs and jobs, the program's LeastChanges, ChangeCost and BatchPlan are as the law says: it returns true. No condition. -/
import Derived.Test.YtkdjeneogclocaaRows
import Derived.Test.YtkdjeneogclocaaJobQ
import Derived.Test.YtkdjeneogclocaaChgB
import Derived.Test.YtkdjeneogclocaaBatB
import Derived.Test.YtkdjeneogclocaaChgP
import Derived.Deep.CutRange
import Derived.Test.YtkdjeneogclocaaOpen
import Derived.Test.YtkdjeneogclocaaOpen2
namespace Go.Proofs.Ytkdjeneogclocaa.lFnChangesOf
open Go.ChangeShapes Go.WideShapes Go.ChangeAt Go.RowKit Go.Proofs.Ytkdjeneogclocaa Plain
set_option linter.unusedVariables false
set_option linter.unusedSimpArgs false
attribute [local go_sem ↓] Go.wp_at_zero Go.wp_at_succ

theorem drawn_ok {l : List Q4} (h : ∀ q ∈ l, jobD q) : ∀ q ∈ l, jobOk q := fun q hq => by
  obtain ⟨⟨a0, a1⟩, ⟨b0, b1⟩, ⟨c0, c1⟩, d0, d1⟩ := h q hq
  exact ⟨⟨by omega, by omega⟩, ⟨by omega, by omega⟩, ⟨by omega, by omega⟩, by omega, by omega⟩
set_option maxHeartbeats 8000000 in
set_option maxRecDepth 100000 in
theorem walk (w : World) (v0 : Value) (x0 : List Nat) (i0 : ∀ x ∈ x0, x < 256) (s0 : Sl w 1 v0 x0.length (bys x0)) (v1 : Value) (x1 : List Nat) (i1 : ∀ x ∈ x1, x < 256) (s1 : Sl w 1 v1 x1.length (bys x1)) :
    Calls Try.prog 3 #[v0, v1] w fun e w' => e = .returned (.bool true) ∧ Below w.heap.size w w' := by
  have L := hd (r8Long_any v0 v1 x0 x1 w s0 s1)
  have AM := hd (fun w' (h : Below w.heap.size w w') k n hn hn2 hk => r8At_any v1 x1 i1 k n hn hn2 hk w' (s1.below h))
  have RB := hd (fun w' (h : Below w.heap.size w w') N M e1 e2 e3 => R8Below_any v0 x0 i0 w' (s0.below h) N M e1 e2 e3)
  have RJ := hd (fun w' (h : Below w.heap.size w w') N e1 e2 fr => R8Jobs_any v1 x1 i1 w' (s1.below h) N e1 e2 fr)
  have RO := hd (fun w' (h : Below w.heap.size w w') N e1 e2 => R8Order_any v1 x1 i1 w' (s1.below h) N e1 e2)
  clear s0 s1 i0 i1
  go_enter Try.func3, Try.ntmps3
  go_wp2_with fail
  go_at_call 4
  refine L.out.mono ?_; rintro e w' ⟨rfl, hw⟩; replace hw := hw.symm; subst hw
  generalize (decide (48 < x0.length) || decide (48 < x1.length)) = b
  cases b with
  | true =>
    go_wp2
    go_ret
    exact ⟨rfl, Below.refl _ _⟩
  | false =>
  clear L
  go_wp2_with fail
  go_at_call 5
  refine (AM.out w (Below.refl _ _) 40 6 (by omega) (by omega) (by omega)).mono ?_; rintro e w' ⟨rfl, hw⟩; replace hw := hw.symm; subst hw
  have hq := r8F_lt x1 40 (n := 6) (by omega)
  generalize r8F x1 40 6 = q0 at *
  obtain ⟨n, hn⟩ : ∃ n : Nat, (n : Int) = 1 + (q0 : Int) := ⟨1 + q0, by push_cast; rfl⟩
  have n1 : 1 ≤ n := by omega
  have n6 : n ≤ 6 := by omega
  have hwn : IntKind.i64.wrap (1 + (q0 : Int)) = (n : Int) := by rw [IntWalk.i64_in _ (by omega), hn]
  clear hn hq
  obtain ⟨p, hp⟩ : ∃ p, p = n * n := ⟨_, rfl⟩
  have hp36 := sq_le n6
  rw [← hp] at hp36
  have hpi : IntKind.i64.wrap ((n : Int) * (n : Int)) = (p : Int) := by
    have : (n : Int) * (n : Int) = (p : Int) := by rw [hp]; push_cast; rfl
    rw [this, IntWalk.i64_in _ (by omega)]
  have HP := hd hp
  clear hp
  go_wp2_with fail
  go_at_call 6
  refine (RB.out w (Below.refl _ _) p 9 (by omega) (by omega) (by omega)).mono ?_
  rintro e w1 ⟨cs, u, rfl, hl, hbd, ho, hb1⟩
  clear hwn hpi RB
  have HC1 := hd (show CostsAt w1 u cs n from ⟨by rw [← HP.out]; exact own_sl ho (by unfold maxLen; omega), by rw [hl, HP.out], fun x hx => by have := hbd x hx; omega⟩)
  have HB1 := hd hb1
  clear ho hb1 hbd hl hp36
  go_wp2_with fail
  go_at_call 7
  refine (RO.out w1 HB1.out n (by omega) (by omega)).mono ?_
  rintro e w2 ⟨d0, v, rfl, e1, e2, e3, ho, hb2⟩
  have HB2 := hd (below_tr hb2 HB1.out)
  have HC2 := hd (HC1.out.below hb2)
  have HO2 := hd (show OrdAt w2 v d0 n from ⟨own_sl ho (by unfold maxLen; omega), e1, fun k hk => (e2 k (by omega)).1, perm_of e1 e2 e3⟩)
  clear e1 e2 e3 ho hb2 HB1 HC1 RO
  go_wp2_with fail
  go_at_call 8
  refine (LeastChanges_any u cs n w2 HC2.out n1 n6).mono ?_
  rintro e w3 ⟨d3, v3, rfl, e1, e2, e3, e4, ho, hb3⟩
  have HB3 := hd (below_tr hb3 HB2.out)
  have HC3 := hd (HC2.out.below hb3)
  have HO3 := hd (HO2.out.below hb3)
  have HO3' := hd (show OrdAt w3 v3 d3 n from ⟨own_sl ho (by unfold maxLen; omega), e1, e2, e3⟩)
  have HLE := hd (first_le (fun i j => (HC3.out.ct i j).1) n1 HO3.out.perm)
  have CC1 := hd (ChangeCost_any v3 u d3 cs n w3 HO3'.out HC3.out n1 n6)
  have CC2 := hd (fun w' (hb : Below w3.heap.size w3 w') => ChangeCost_any v u d0 cs n w' (HO3.out.below hb) (HC3.out.below hb) n1 n6)
  have IO := hd (fun w' (hb : Below w3.heap.size w3 w') => IsOrder_any v3 d3 n w' (HO3'.out.below hb) n1 (by omega))
  rw [e4] at CC1
  clear e1 e2 e3 e4 ho hb3 HB2 HC2 HO2
  generalize firstF (ctF cs n) n = lc at *
  generalize chgF (ctF cs n) (ordF d0) (n - 1) = oc at *
  go_wp2_with fail
  go_at_call 9
  refine CC1.out.mono ?_; rintro e w4 ⟨rfl, hb4⟩
  go_wp2_with fail
  go_at_call 9
  refine (CC2.out w4 hb4).mono ?_; rintro e w5 ⟨rfl, hb5⟩
  have B5 := hd (below_tr hb5 hb4)
  have hle := HLE.out
  have hgt : ¬ lc > oc := by omega
  clear hb4 hb5 CC1 CC2 HC3 HO3 HO3' hle
  go_wp2_with (first
    | (go_at_call 10; refine (IO.out w5 B5.out).mono ?_; rintro e w6 ⟨rfl, hb6⟩; have HB6 := hd (below_tr hb6 (below_tr B5.out HB3.out)); clear hb6)
    | (go_at_call 11; refine (RJ.out w6 HB6.out n (by omega) (by omega) true).mono ?_; rintro e w7 ⟨l, vj, rfl, hl, hlo, hfr, ho, hb7⟩; have HB7 := hd (below_tr hb7 HB6.out); have HD := hd hlo; have HFR := hd (hfr rfl); have HJ7 := hd (show JobsAt w7 vj l n from ⟨own_sl ho (by unfold maxLen; omega), hl, drawn_ok hlo, by omega, by omega⟩); clear hl hlo hfr ho hb7 IO B5 hgt))
  go_at_call 5
  refine (AM.out w7 HB7.out 41 8 (by omega) (by omega) (by omega)).mono ?_; rintro e w' ⟨rfl, hw⟩; replace hw := hw.symm; subst hw
  have hq1 := r8F_lt x1 41 (n := 8) (by omega)
  generalize r8F x1 41 8 = ch at *
  go_wp2_with fail
  go_at_call 5
  refine (AM.out w7 HB7.out 42 n (by omega) (by omega) (by omega)).mono ?_; rintro e w' ⟨rfl, hw⟩; replace hw := hw.symm; subst hw
  have hq2 := r8F_lt x1 42 (n := n) (by omega)
  generalize r8F x1 42 n = q2 at *
  obtain ⟨m, hm⟩ : ∃ m : Nat, (m : Int) = 1 + (q2 : Int) := ⟨1 + q2, by push_cast; rfl⟩
  have m1 : 1 ≤ m := by omega
  have m6 : m ≤ 6 := by omega
  have hwm : IntKind.i64.wrap (1 + (q2 : Int)) = (m : Int) := by rw [IntWalk.i64_in _ (by omega), hm]
  clear hm hq2 AM RJ
  have hch0 : 0 ≤ (ch : Int) := by omega
  have hch1 : (ch : Int) ≤ 10 := by omega
  have BP := hd (BatchPlan_any vj l n w7 HJ7.out HFR.out HD.out n6 (ch : Int) hch0 hch1 m m1 m6)
  have BP0 := hd (fun w' (hb : Below w7.heap.size w7 w') => BatchPlan_any vj l n w' (HJ7.out.below hb) HFR.out HD.out n6 0 (by omega) (by omega) m m1 m6)
  have TW := hd (tw_ok HD.out HJ7.out.len n6)
  have TS := hd (fun k => (show tmS l (k + 1) = tmS l k + (jobAt l k).a from rfl))
  have WS := hd (fun k => (show wtS l (k + 1) = wtS l k + (jobAt l k).d from rfl))
  have T0 := hd (show tmS l 0 = 0 from rfl)
  have W0 := hd (show wtS l 0 = 0 from rfl)
  have JD := hd (fun i (hi : i < n) => jobD_at HD.out (show i < l.length by rw [HJ7.out.len]; exact hi))
  go_wp2_with fail
  clear hwm
  go_at_call 12
  refine BP.out.mono ?_
  rintro e w8 ⟨c, s, u8, rfl, hpl, ho8, hb8⟩
  have PF := hd (fun c' s' h0 => plan_free TW.out (c := c') (s := s') hch0 h0 hpl)
  clear BP
  obtain ⟨T, hT⟩ : ∃ T, T = tmS l := ⟨_, rfl⟩
  obtain ⟨W, hW⟩ : ∃ W, W = wtS l := ⟨_, rfl⟩
  rw [← hT] at TW TS T0 PF hpl
  rw [← hW] at TW WS W0 PF hpl
  have HTm := hd hT
  have HWm := hd hW
  clear hT hW
  have HPL := hd hpl
  obtain ⟨Lb, hLb⟩ : ∃ Lb, Lb = s.length := ⟨_, rfl⟩
  have sl := sum_len s hpl.ok
  rw [hpl.sum, ← hLb] at sl
  have sl1 : 1 ≤ Lb := by
    rw [hLb]
    cases s with
    | nil => have := hpl.sum; simp at this; omega
    | cons => simp
  rw [← hLb] at ho8
  have HLb := hd hLb
  obtain ⟨A8, c8, rfl, hc8, hr8, _⟩ := own_rd ho8 (by unfold maxLen; omega)
  obtain ⟨Aj, cj, rfl, hcj, hrj⟩ := (HJ7.out.below hb8).sl
  have HR8 := hd hr8
  have HRJ := hd hrj
  have HB8 := hd hb8
  clear hpl hLb ho8 hr8 hrj hb8
  have hsl2 : ¬ (Lb : Int) < 1 := by omega
  go_upto_region 21 with fail
  have Z0 := hd (show nowS T ch 0 (atS s 0) = 0 ∧ atS s 0 = 0 ∧ cstS T W ch s 0 = 0 from by
    have e : atS s 0 = 0 := by rw [atS, drop_zero']; rfl
    refine ⟨?_, e, ?_⟩
    · rw [e, nowS, T0.out]; simp
    · rw [cstS, drop_zero']; rfl)
  have ZN := hd (show atS s Lb = n ∧ cstS T W ch s Lb = c from by
    rw [atS, cstS, HLb.out, drop_all]; exact ⟨HPL.out.sum, HPL.out.cost⟩)
  have ONE := hd (show c ≤ oneS T W ch n from by
    rw [one_cost]
    exact HPL.out.best _ (fun y hy => by rw [List.eq_of_mem_replicate hy]; omega) (by simp))
  have ZS := hd (fun k (h : k < Lb) => cst_succ T W ch s (show k < s.length by rw [← HLb.out]; exact h))
  have AS := hd (fun k (h : k < Lb) => at_succ s (show k < s.length by rw [← HLb.out]; exact h))
  have AL := hd (fun k (h : k ≤ Lb) => (show atS s k ≤ n by rw [← HPL.out.sum]; exact at_le s k (by rw [← HLb.out]; exact h)))
  have BX := hd (fun k (h : k < Lb) => bx_ok HPL.out.ok (show k < s.length by rw [← HLb.out]; exact h))
  have BA := hd (fun k (h : k < Lb) => bx_at s (show k < s.length by rw [← HLb.out]; exact h))
  have CBD := hd (fun k (h : k ≤ Lb) => cst_bd TW.out (by omega) hch0 hch1 HPL.out.ok HPL.out.sum k (by rw [← HLb.out]; exact h))
  have NBD := hd (fun k i (hk : k ≤ 9) (hi : i ≤ n) => now_bd TW.out hch0 hch1 hk hi)
  have NCH := hd (fun k i => now_ch T ch k i)
  have NT := hd (fun k i => (show nowS T ch k (i + 1) = nowS T ch k i + (jobAt l i).a by rw [nowS, nowS, TS.out]; omega))
  obtain ⟨chi, hchi⟩ : ∃ chi : Int, chi = (ch : Int) := ⟨_, rfl⟩
  rw [← hchi] at Z0 ZN ONE ZS CBD NBD NCH NT hch0 hch1 HPL ⊢
  clear hchi
  go_loopw [21, 22, 23, 24] (fun nv av sv kv wr => ∃ k : Nat, k ≤ Lb ∧ kv = .int .i64 k ∧ nv = .int .i64 (nowS T chi k (atS s k)) ∧ av = .int .i64 (atS s k : Nat) ∧ sv = .int .i64 (cstS T W chi s k) ∧ wr = w8) (fun _ _ _ kv _ => Lb - (intOf kv).toNat)
  case atStart => exact ⟨0, by omega, rfl, by rw [Z0.out.1], by rw [Z0.out.2.1]; rfl, by rw [Z0.out.2.2], rfl⟩
  case round =>
    obtain ⟨k, hk, rfl, rfl, rfl, rfl, hw⟩ := hrel
    replace hw := hw.symm
    subst hw
    by_cases hlt : k < Lb
    · have k2 : (k : Int) < (Lb : Int) := Int.ofNat_lt.2 hlt
      obtain ⟨g, off, rfl, cx⟩ := HR8.out.int hlt
      rw [BA.out k hlt] at cx
      have bx := BX.out k hlt
      have asx := AS.out k hlt
      have al := AL.out (k + 1) (by omega)
      have zs := ZS.out k hlt
      have cb0 := CBD.out k hk
      have cb1 := CBD.out (k + 1) (by omega)
      have nc := NCH.out k (atS s k)
      obtain ⟨x, hx⟩ : ∃ x, x = bxS s k := ⟨_, rfl⟩
      obtain ⟨a0, ha0⟩ : ∃ a0, a0 = atS s k := ⟨_, rfl⟩
      obtain ⟨a1, ha1⟩ : ∃ a1, a1 = atS s (k + 1) := ⟨_, rfl⟩
      rw [← hx] at cx bx asx
      rw [← ha0] at asx zs nc ⊢
      rw [← ha1] at asx al zs
      have HA1 := hd ha1
      have n0 := NBD.out k a0 (by omega) (by omega)
      have nb := fun i (hi : i ≤ n) => NBD.out (k + 1) i (by omega) hi
      have n1' := nb a0 (by omega)
      have NB := hd nb
      have NT1 := hd (fun i => NT.out (k + 1) i)
      obtain ⟨S0, hS0⟩ : ∃ S0, S0 = cstS T W chi s k := ⟨_, rfl⟩
      rw [← hS0] at zs cb0 ⊢
      obtain ⟨w0, hw0⟩ : ∃ w0, w0 = nowS T chi k a0 := ⟨_, rfl⟩
      rw [← hw0] at nc n0 ⊢
      obtain ⟨N, hN⟩ : ∃ N : Nat → Int, N = nowS T chi (k + 1) := ⟨_, rfl⟩
      rw [← hN] at nc n1' NB NT1 zs
      have HN := hd hN
      have ZS1 := hd zs
      have wb := hd (fun i j (h1 : i ≤ j) (h2 : j ≤ n) => And.intro (TW.out.w0 i j h1 h2) (TW.out.w1 j h2))
      have wc := hd (fun i (h1 : i ≤ n) => TW.out.w1 i h1)
      clear hx ha0 ha1 hS0 hw0 hN nb zs
      have hx1 : ¬ (x : Int) < 1 := by omega
      have hx2 : ¬ (x : Int) > (m : Int) := by omega
      have hax : IntKind.i64.wrap ((a0 : Int) + (x : Int)) = (a1 : Int) := by rw [IntWalk.i64_in _ (by omega)]; omega
      have han : ¬ (a1 : Int) > (n : Int) := by omega
      have hwc : IntKind.i64.wrap (w0 + chi) = N a0 := by rw [IntWalk.i64_in _ (by omega)]; exact nc
      clear nc n0
      go_wp2
      go_loopw [21, 25] (fun nv iv wr => ∃ i : Nat, a0 ≤ i ∧ i ≤ a1 ∧ iv = .int .i64 i ∧ nv = .int .i64 (N i) ∧ wr = w8) (fun _ iv _ => a1 - (intOf iv).toNat)
      case atStart => exact ⟨a0, by omega, by omega, rfl, rfl, rfl⟩
      case round =>
        obtain ⟨i, hi0, hi1, rfl, rfl, hw⟩ := hrel
        replace hw := hw.symm
        subst hw
        by_cases hia : i < a1
        · have hii : (i : Int) < (a1 : Int) := Int.ofNat_lt.2 hia
          have hin : i < n := by omega
          have hini : (i : Int) < (n : Int) := Int.ofNat_lt.2 hin
          obtain ⟨bj, oj, qa, qb, qc, qd, rfl, hq, d0, d1, d2, d3⟩ := HRJ.out.q4 hin
          have nt := NT1.out i
          rw [jobAt_at hq.out] at nt
          simp only at nt
          have jd := (JD.out i hin).1
          rw [jobAt_at hq.out] at jd
          simp only at jd
          have nbi := NB.out i (by omega)
          obtain ⟨y, hy⟩ : ∃ y, y = N i := ⟨_, rfl⟩
          rw [← hy] at nt nbi ⊢
          have HNT := hd nt
          have w9 : IntKind.i64.wrap (y + qa) = y + qa := IntWalk.i64_in _ (by omega)
          clear hq d1 d2 d3 hy jd nbi nt
          go_wp2
          go_roundw
          case rel => exact ⟨i + 1, by omega, by omega, by go_num, by rw [HNT.out], by first | rfl | trivial⟩
          case measure => simp [intOf]; omega
        · obtain rfl : i = a1 := by omega
          obtain ⟨nw, hnw⟩ : ∃ nw, nw = N i := ⟨_, rfl⟩
          have nbn := NB.out i (by omega)
          rw [← hnw] at nbn ⊢
          have HNW := hd hnw
          have SD := hd (fun j => (show S0 + (W (j + 1) - W a0) * nw = S0 + (W j - W a0) * nw + (jobAt l j).d * nw by
            rw [WS.out, show W j + (jobAt l j).d - W a0 = (W j - W a0) + (jobAt l j).d by omega, Int.add_mul]; omega))
          have SZ := hd (show S0 + (W a0 - W a0) * nw = S0 by rw [Int.sub_self, Int.zero_mul]; omega)
          have SB := hd (fun j (h1 : a0 ≤ j) (h2 : j ≤ n) => (show 0 ≤ S0 + (W j - W a0) * nw ∧ S0 + (W j - W a0) * nw ≤ 110000 from by
            have h3 := wb.out a0 j h1 h2
            have h4 := wc.out a0 (by omega)
            have h5 : 0 ≤ (W j - W a0) * nw := Int.mul_nonneg (by omega) (by omega)
            have h6 : (W j - W a0) * nw ≤ 60 * 150 := Int.mul_le_mul (by omega) (by omega) (by omega) (by omega)
            omega))
          have SE := hd (show cstS T W chi s (k + 1) = S0 + (W i - W a0) * nw from by rw [HNW.out]; exact ZS1.out)
          obtain ⟨S, hS⟩ : ∃ S : Nat → Int, S = fun j => S0 + (W j - W a0) * nw := ⟨_, rfl⟩
          have SD1 := hd (fun j => (show S (j + 1) = S j + (jobAt l j).d * nw by rw [hS]; exact SD.out j))
          have SZ1 := hd (show S a0 = S0 by rw [hS]; exact SZ.out)
          have SB1 := hd (fun j (h1 : a0 ≤ j) (h2 : j ≤ n) => (show 0 ≤ S j ∧ S j ≤ 110000 by rw [hS]; exact SB.out j h1 h2))
          have SE1 := hd (show cstS T W chi s (k + 1) = S i by rw [hS]; exact SE.out)
          clear hS SD SZ SB SE hnw
          go_wp2
          go_loopw [23, 26] (fun sv iv wr => ∃ j : Nat, a0 ≤ j ∧ j ≤ i ∧ iv = .int .i64 j ∧ sv = .int .i64 (S j) ∧ wr = w8) (fun _ iv _ => i - (intOf iv).toNat)
          case atStart => exact ⟨a0, by omega, by omega, rfl, by rw [SZ1.out], rfl⟩
          case round =>
            obtain ⟨j, hj0, hj1, rfl, rfl, hw⟩ := hrel
            replace hw := hw.symm
            subst hw
            by_cases hji : j < i
            · have hjii : (j : Int) < (i : Int) := Int.ofNat_lt.2 hji
              have hjn : j < n := by omega
              have hjni : (j : Int) < (n : Int) := Int.ofNat_lt.2 hjn
              obtain ⟨bj, oj, qa, qb, qc, qd, rfl, hq, d0, d1, d2, d3⟩ := HRJ.out.q4 hjn
              have sd := SD1.out j
              rw [jobAt_at hq.out] at sd
              simp only at sd
              have jd := (JD.out j hjn).2.2.2
              rw [jobAt_at hq.out] at jd
              simp only at jd
              have sb := SB1.out j hj0 (by omega)
              have sb1 := SB1.out (j + 1) (by omega) (by omega)
              obtain ⟨y, hy⟩ : ∃ y, y = S j := ⟨_, rfl⟩
              rw [← hy] at sd sb ⊢
              obtain ⟨pr, hpr⟩ : ∃ pr, pr = qd * nw := ⟨_, rfl⟩
              rw [← hpr] at sd
              have hp0 : 0 ≤ pr := by rw [hpr]; exact Int.mul_nonneg (by omega) (by omega)
              have hp1 : pr ≤ 5 * 150 := by rw [hpr]; exact Int.mul_le_mul (by omega) (by omega) (by omega) (by omega)
              have w9 : IntKind.i64.wrap (qd * nw) = pr := by rw [← hpr]; exact IntWalk.i64_in _ (by omega)
              have w8' : IntKind.i64.wrap (y + pr) = y + pr := IntWalk.i64_in _ (by omega)
              have HSD := hd sd
              clear hq d0 d1 d2 hy hpr jd sb sb1 sd hp0 hp1
              go_wp2
              go_roundw
              case rel => exact ⟨j + 1, by omega, by omega, by go_num, by rw [HSD.out], by first | rfl | trivial⟩
              case measure => simp [intOf]; omega
            · obtain rfl : j = i := by omega
              go_wp2
              go_roundw
              case rel => exact ⟨k + 1, by omega, by go_num, by rw [HNW.out, HN.out, HA1.out], by have := HA1.out; exact congrArg (Value.int IntKind.i64) (by omega), by rw [SE1.out], by first | rfl | trivial⟩
              case measure => simp [intOf]; omega
    · obtain rfl : k = Lb := by omega
      have zn := ZN.out
      rw [zn.1, zn.2]
      generalize nowS T chi k (atS s k) = nz at *
      have O0 := hd (show nowS T chi 0 0 = 0 ∧ oneS T W chi 0 = 0 from ⟨by rw [nowS, T0.out]; simp, rfl⟩)
      have OS := hd (fun i => (show oneS T W chi (i + 1) = oneS T W chi i + (W (i + 1) - W i) * nowS T chi (i + 1) (i + 1) from rfl))
      have OB := hd (fun i (h : i ≤ n) => (show 0 ≤ oneS T W chi i ∧ oneS T W chi i ≤ 10000 * i by
        rw [one_cost]
        have := bcost_bd TW.out (by omega) hch0 hch1 (m := m) (List.replicate i 1) (fun y hy => by rw [List.eq_of_mem_replicate hy]; omega) (by simpa using h)
        rw [List.length_replicate] at this
        exact this))
      clear zn ZN Z0 ZS AS AL BX BA CBD
      go_wp2
      go_loopw [21, 27, 28] (fun nv qv iv wr => ∃ i : Nat, i ≤ n ∧ iv = .int .i64 i ∧ nv = .int .i64 (nowS T chi i i) ∧ qv = .int .i64 (oneS T W chi i) ∧ wr = w8) (fun _ _ iv _ => n - (intOf iv).toNat)
      case atStart => exact ⟨0, by omega, rfl, by rw [O0.out.1], by rw [O0.out.2], rfl⟩
      case round =>
        obtain ⟨i, hi, rfl, rfl, rfl, hw⟩ := hrel
        replace hw := hw.symm
        subst hw
        by_cases hin : i < n
        · have hini : (i : Int) < (n : Int) := Int.ofNat_lt.2 hin
          obtain ⟨bj, oj, qa, qb, qc, qd, rfl, hq, d0, d1, d2, d3⟩ := HRJ.out.q4 hin
          have hj := jobAt_at hq.out
          have nt := NT.out (i + 1) i
          have nc := NCH.out i i
          have os := OS.out i
          have ws := WS.out i
          rw [hj] at nt ws
          simp only at nt ws
          have jd := JD.out i hin
          rw [hj] at jd
          obtain ⟨⟨j1, j2⟩, _, _, j3, j4⟩ := jd
          simp only at j1 j2 j3 j4
          have b0 := NBD.out i i (by omega) (by omega)
          have b1 := NBD.out (i + 1) (i + 1) (by omega) (by omega)
          have o0 := OB.out i (by omega)
          have o1 := OB.out (i + 1) (by omega)
          rw [ws, show W i + qd - W i = qd by omega] at os
          obtain ⟨y, hy⟩ : ∃ y, y = nowS T chi i i := ⟨_, rfl⟩
          obtain ⟨y1, hy1⟩ : ∃ y1, y1 = nowS T chi (i + 1) (i + 1) := ⟨_, rfl⟩
          obtain ⟨o, ho⟩ : ∃ o, o = oneS T W chi i := ⟨_, rfl⟩
          rw [← hy] at nc b0 ⊢
          rw [← hy1] at nt b1 os
          rw [← ho] at os o0 ⊢
          have HY1 := hd hy1
          obtain ⟨pr, hpr⟩ : ∃ pr, pr = qd * y1 := ⟨_, rfl⟩
          rw [← hpr] at os
          have hp0 : 0 ≤ pr := by rw [hpr]; exact Int.mul_nonneg (by omega) (by omega)
          have hp1 : pr ≤ 5 * 150 := by rw [hpr]; exact Int.mul_le_mul (by omega) (by omega) (by omega) (by omega)
          have w1' : IntKind.i64.wrap (chi + qa) = chi + qa := IntWalk.i64_in _ (by omega)
          have w2' : IntKind.i64.wrap (y + (chi + qa)) = y1 := by rw [IntWalk.i64_in _ (by omega)]; omega
          have w3' : IntKind.i64.wrap (qd * y1) = pr := by rw [← hpr]; exact IntWalk.i64_in _ (by omega)
          have w4' : IntKind.i64.wrap (o + pr) = o + pr := IntWalk.i64_in _ (by omega)
          have HOS := hd os
          clear hq hj d1 d2 nt nc ws os b0 b1 o0 o1 hy hy1 ho hpr hp0 hp1 j1 j2 j3 j4
          go_wp2
          go_roundw
          case rel => exact ⟨i + 1, by omega, by go_num, by rw [HY1.out], by rw [HOS.out], by first | rfl | trivial⟩
          case measure => simp [intOf]; omega
        · obtain rfl : i = n := by omega
          have hone := ONE.out
          have hgt : ¬ c > oneS T W chi i := by omega
          generalize oneS T W chi i = on at *
          generalize nowS T chi i i = ny at *
          clear hone ONE OS OB O0
          go_wp2_with fail
          go_at_call 12
          refine (BP0.out w8 HB8.out).mono ?_
          rintro e w9 ⟨c', s', u9, rfl, hpl', ho9, hb9⟩
          have sl9 := sum_len s' hpl'.ok
          rw [hpl'.sum] at sl9
          have hle : c' ≤ c := PF.out c' s' (by rw [HTm.out, HWm.out]; exact hpl')
          obtain ⟨A9, c9, rfl, _, _, _⟩ := own_rd ho9 (by unfold maxLen; omega)
          have hli : ((s'.length : Nat) : Int) ≤ (i : Int) := Int.ofNat_le.2 sl9
          generalize s'.length = L9 at *
          have HB9 := hd (below_tr hb9 (below_tr HB8.out HB7.out))
          clear ho9 hb9 hpl' sl9
          go_wp2
          go_ret
          exact ⟨rfl, HB9.out⟩

theorem own : ownKnob Try.prog.godebug = none := by kernel_rfl
theorem laidOut : laidOutB Try.prog = true := by kernel_rfl

set_option maxRecDepth 100000 in
theorem lifted (os : Os) (started : os.Started) (H : Type) (enc : TypeId × Value → H) :
    ReturnsInHanded {} Try.checked os 3 .any (Rows.fnChangesOfSpec.pre6 enc Try.prog Try.f3 Rows.fnChangesOfRow.domain false) (Rows.fnChangesOfSpec.post enc Try.prog Try.f3 false true false false) := by
  refine returnsInHanded_of_change (C := Try.checked) own started (by as_aux_lemma => kernel_rfl) Try.func3
    (ChangeSpec.witness6 (enc := enc) (C := Try.checked) false ⟨#[], #[.slice none 0 0, .slice none 0 0], []⟩ 8 (by as_aux_lemma => kernel_rfl) (by as_aux_lemma => kernel_rfl) (by as_aux_lemma => kernel_rfl) (by as_aux_lemma => kernel_rfl)) ?_
  intro W base args ds gs before hval0 hW hcnd _
  have hval : ∀ (j : Nat) t v, Try.f3.params[j]? = some t → args[j]? = some v → Value.okWide Try.prog W .any base t v := hval0
  have hW' := hW
  obtain ⟨p, q, hA0, hV, rfl, hfz, hnd⟩ := hW
  have hA : DataW.TrodAll enc Try.prog W 0 (fun _ => true) true Try.f3.params.toList args.toList ds p := hA0
  rw [Try.params3] at hA hval
  obtain ⟨v0, vs0, d0, ds0, p0, q0, hargs, rfl, rfl, h0, r0⟩ := trodAll_cons hA
  obtain ⟨v1, vs1, d1, ds1, p1, q1, rfl, rfl, rfl, h1, r1⟩ := trodAll_cons r0
  obtain ⟨rfl, rfl, rfl⟩ := trodAll_nil r1
  obtain rfl : args = #[v0, v1] := by cases args; simp_all
  obtain ⟨rfl, rfl⟩ := trodVars_none hV
  have k0 := h0
  have lt0 : ∀ x ∈ p0, x.block < W.heap.size := by obtain ⟨m, hm⟩ := k0; exact DataW.trod_lt m _ _ _ hm
  obtain ⟨s0, len0, cap0, rfl⟩ := okWide_slice Try.underlying22 (hval 0 22 v0 rfl rfl)
  obtain ⟨x0, _, i0, w0⟩ := arg_bytes Try.underlying22 Try.underlying5 (by as_aux_lemma => kernel_rfl) h0
  have k1 := h1
  have lt1 : ∀ x ∈ p1, x.block < W.heap.size := by obtain ⟨m, hm⟩ := k1; exact DataW.trod_lt m _ _ _ hm
  obtain ⟨s1, len1, cap1, rfl⟩ := okWide_slice Try.underlying22 (hval 1 22 v1 rfl rfl)
  obtain ⟨x1, _, i1, w1⟩ := arg_bytes Try.underlying22 Try.underlying5 (by as_aux_lemma => kernel_rfl) h1
  clear hA0 hval0
  refine (walk W _ x0 i0 w0 _ x1 i1 w1).mono fun e W' ⟨he, bel⟩ => ?_
  subst he
  exact ⟨_, rfl, _, _, _, [], _, [], hW', trodAll_mk1 (shut_bool Try.underlying4 _), (trodAll_cons_mk (Below.trod laidOut (by as_aux_lemma => kernel_rfl) (of_decide_eq_true (by as_aux_lemma => kernel_rfl)) k0 bel lt0) (trodAll_cons_mk (Below.trod laidOut (by as_aux_lemma => kernel_rfl) (of_decide_eq_true (by as_aux_lemma => kernel_rfl)) k1 bel lt1) (trodAll_mk0))), rfl, bel.frame _, fun h => by cases h⟩

/-- The given statement. -/
theorem proved : Rows.FnChangesOfSaid :=
  OpenClaim.holds_of_wide 3 Try.f3 rfl rfl rfl rfl rfl rfl rfl ⟨rfl, rfl, rfl, rfl, rfl⟩ rfl rfl rfl rfl rfl (by kernel_rfl) Try.func3 (by kernel_rfl)
    (of_decide_eq_true (by kernel_rfl)) (by unfold Func.isWrapper; first | (rw [if_pos (by decide +kernel)]; kernel_rfl) | (rw [if_neg (by decide +kernel)]; exact ⟨rfl, rfl⟩))
    (fun os started H enc _ => lifted os started H enc)
#print axioms proved

end Go.Proofs.Ytkdjeneogclocaa.lFnChangesOf
