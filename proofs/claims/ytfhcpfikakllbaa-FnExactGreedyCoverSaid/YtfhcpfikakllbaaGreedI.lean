/- GreedyCover, the program's side. -/
import Derived.Test.YtfhcpfikakllbaaProg
import Derived.Test.YtfhcpfikakllbaaGreedM
namespace Go.Proofs.Ytfhcpfikakllbaa
open Go.RowKit Plain
set_option linter.unusedVariables false
set_option linter.unusedSimpArgs false
attribute [local go_sem ↓] Go.wp_at_zero Go.wp_at_succ

set_option maxHeartbeats 4000000 in
set_option maxRecDepth 100000 in
theorem implGreedy_no (w : World) (r : SR) (v : Value) (ns : List Int) (b0 : ns.length ≤ 1048576) (s0 : Sl w 1 v ns.length (ns.map vi)) (hok : okG r ns = false) :
    Calls Try.prog 7 #[r.val, v] w (Out3 [] [] false w) := by
  have A1 := hd (fun W => ValidRule_any r W)
  have A2 := hd (fun w' h => areMany_any v ns r.slots r.slots 0 100 w' (s0.below h))
  have S0 := hd (srat_box w r 28)
  unfold okG at hok
  generalize validS r = b1 at *
  generalize manyIn ns r.slots r.slots 0 100 = b2 at *
  obtain ⟨a0, a1, a2, a3, a4⟩ := r
  simp only [SR.val] at *
  clear s0
  cases b1 <;> cases b2
  all_goals first
    | (exfalso; simp at hok; done)
    | (clear hok
       go_enter Try.func7, Try.ntmps7
       go_wp2_with (first
         | (go_at_call 18; refine (A1.out _).mono ?_; rintro e w1 ⟨rfl, hb1⟩; have HB1 := hd (below_tr hb1 ((Below.refl w.heap.size w).alloc (Nat.le_refl _) (.cells #[.int .i64 a0, .int .i64 a1, .int .i64 a2, .int .i64 a3, .int .i64 a4] 28))); obtain ⟨r0, r1, r2, r3, r4⟩ := S0.out.below hb1; clear hb1; simp only at r0 r1 r2 r3 r4)
         | (go_at_call 19; refine (A2.out _ HB1.out).mono ?_; rintro e w' ⟨rfl, hw⟩; subst hw))
       go_ret3
       exact ⟨_, _, rfl, World.ownsRow_nil _ _ _ _, World.ownsRow_nil _ _ _ _, fun k h => by simp [Value.ownBlock] at h, HB1.out⟩)

set_option maxHeartbeats 8000000 in
set_option maxRecDepth 100000 in
theorem implGreedy_yes (w : World) (r : SR) (v : Value) (ns : List Int) (b0 : ns.length ≤ 1048576) (s0 : Sl w 1 v ns.length (ns.map vi)) (hok : okG r ns = true) :
    Calls Try.prog 7 #[r.val, v] w (Out3 (gM r ns).1 (gM r ns).2.1 (gM r ns).2.2 w) := by
  have A1 := hd (fun W => ValidRule_any r W)
  have A2 := hd (fun w' h => areMany_any v ns r.slots r.slots 0 100 w' (s0.below h))
  have S0 := hd (srat_box w r 28)
  have GN := hd (fun h => gM_none (r := r) (ns := ns) hok h)
  have GS := hd (fun c h => gM_some (r := r) (ns := ns) (c := c) hok h)
  simp only [okG, Bool.and_eq_true] at hok
  obtain ⟨h1, h2⟩ := hok
  obtain ⟨m1, m2, m3⟩ := many_bd h2
  obtain ⟨b1, b2, b3, b4, b5⟩ := valid_bd h1
  rw [h1] at A1
  rw [h2] at A2
  have hok64 : okF r 64 = true := by rw [okF, h1]; rfl
  have A3 := hd (fun W => implFirst_any r 64 W)
  rw [Mf_yes hok64] at A3
  dsimp only at A3
  simp only [show (64 : Int).toNat = 64 from rfl] at A3
  have TL := allF_len r 64
  have TS := hd (fun k (hk : k < (allF r 64).length) => show ((allF r 64).getD k ⟨#[]⟩).size = ns.length by
    rw [List.getD_eq_getElem?_getD, List.getElem?_eq_getElem hk]
    have := allF_size (r := r) (n := 64) (by omega) (List.getElem_mem hk)
    show ((allF r 64)[k]).size = _
    omega)
  have F0 := hd (fun j (hj : j < ns.length) => all_getD m3 j hj)
  have RG := hd (show runG r ns = greedyF (allF r 64) ns.length 2401 (fun _ => 0) (fun j => ns.getD j 0) from rfl)
  generalize runG r ns = R at *
  generalize allF r 64 = ts at *
  have LO := hd (lst_of ns)
  have CL := hd (fun w' h => Clone_any v ns w' (s0.below h) (by omega) (by omega))
  have h0 : 0 < ns.length := by omega
  have h24 : ns.length ≤ 24 := by omega
  clear h1 h2 m1 m2 m3 b2 b3 b4 b5 hok64 s0 b0 b1
  obtain ⟨S, hS⟩ : ∃ S, S = ns.length := ⟨_, rfl⟩
  rw [← hS] at TS F0 RG LO h0 h24
  have HSn := hd hS
  clear hS
  obtain ⟨N, hN⟩ : ∃ N, N = ts.length := ⟨_, rfl⟩
  rw [← hN] at TS TL A3 GS
  have HN := hd hN
  clear hN
  obtain ⟨f0, hf0⟩ : ∃ f0 : Nat → Int, f0 = fun j => ns.getD j 0 := ⟨_, rfl⟩
  have F0' := hd (fun j (hj : j < S) => show 0 ≤ f0 j ∧ f0 j ≤ 100 by rw [hf0]; exact F0.out j hj)
  rw [← hf0] at RG LO
  clear hf0 F0
  obtain ⟨a0, a1, a2, a3, a4⟩ := r
  simp only [SR.val] at *
  go_enter Try.func7, Try.ntmps7
  go_wp2_with (first
    | (go_at_call 18; refine (A1.out _).mono ?_; rintro e w1 ⟨rfl, hb1⟩; have HB1 := hd (below_tr hb1 ((Below.refl w.heap.size w).alloc (Nat.le_refl _) (.cells #[.int .i64 a0, .int .i64 a1, .int .i64 a2, .int .i64 a3, .int .i64 a4] 28))); obtain ⟨r0, r1, r2, r3, r4⟩ := S0.out.below hb1; clear hb1; simp only at r0 r1 r2 r3 r4)
    | (go_at_call 19; refine (A2.out _ HB1.out).mono ?_; rintro e w' ⟨rfl, hw⟩; subst hw)
    | (go_at_call 20; refine (A3.out _).mono ?_; rintro e w2 ⟨u0, rfl, ho2, hb2⟩; have HB2 := hd (below_tr hb2 HB1.out); have HO2 := hd (own_mono ho2 HB1.out.size); clear hb2 ho2 r0 r1 r2 r3 r4; obtain ⟨A0, cap0, rfl, hc0, _, _⟩ := own_rd HO2.out (by unfold maxLen; omega))
    | (at_make; go_must (refine wpList_make_int _ rfl _ rfl _ _ N rfl rfl (by omega) ?_); intro w3 ho3 hb3; have D3 := hd (dj_new HO2.out ho3); have HO3 := hd (own_mono ho3 HB2.out.size); have HO2' := hd (own_below HO2.out hb3); have HB3 := hd (below_tr hb3 HB2.out); clear ho3 hb3)
    | (go_at_call 21; refine (CL.out _ HB3.out).mono ?_; rintro e w4 ⟨u2, rfl, ho4, hb4, hu2⟩; have D4 := hd (dj_new HO2'.out ho4); have D5 := hd (dj_new HO3.out ho4); have HO4 := hd (own_mono ho4 HB3.out.size); have HO3' := hd (own_below HO3.out hb4); have HO2'' := hd (own_below HO2'.out hb4); have HB4 := hd (below_tr hb4 HB3.out); clear ho4 hb4 hu2))
  obtain ⟨A2', cap2, rfl, hc2, _, hA2⟩ := own_rd HO4.out (by have := HSn.out; unfold maxLen; omega)
  obtain ⟨g2, rfl, hg2⟩ : ∃ g, A2' = some ⟨g, 0, none⟩ ∧ w.heap.size ≤ g := by
    rcases hA2 with ⟨rfl, rfl⟩ | ⟨g, h, h', _⟩
    · have := HSn.out; omega
    · exact ⟨g, h, h'⟩
  clear hA2 A1 A2 A3 CL S0 HO2 HO2' HO3 HB1 HB2 HB3
  obtain ⟨g1, hg1⟩ : ∃ g1, g1 = w2.heap.size := ⟨_, rfl⟩
  rw [← hg1] at D3 D5 HO3'
  rw [← hg1]
  clear hg1
  rw [← HSn.out] at HO4
  have GR0 := hd (show GRows w4 w.heap.size S N (.slice A0 N cap0) (.slice (some ⟨g1, 0, none⟩) N N) (.slice (some ⟨g2, 0, none⟩) S cap2) ts (fun _ => 0) f0 from ⟨HO2''.out, by rw [lst_zero]; simpa [vi] using HO3'.out, by rw [LO.out]; exact HO4.out⟩)
  have GD := hd (show GDj (.slice A0 N cap0) (.slice (some ⟨g1, 0, none⟩) N N) (.slice (some ⟨g2, 0, none⟩) S cap2) from ⟨D3.out, D4.out, D5.out⟩)
  have HSS := HSn.out
  rw [← HSS]
  clear HSS D3 D4 D5 HO2'' HO3' HO4 LO hc2
  go_loopw [11] (fun be wr => ∃ (n fu : Nat) (c f : Nat → Int), Hid (greedyF ts S fu c f = R) ∧ Hid (sumF f S < fu) ∧ Hid (GB S n c f) ∧ Hid (GRows wr w.heap.size S N (.slice A0 N cap0) (.slice (some ⟨g1, 0, none⟩) N N) (.slice (some ⟨g2, 0, none⟩) S cap2) ts c f) ∧ Hid (Below w.heap.size w wr)) (fun _ wr => (sumW wr g2 S).toNat)
  case atStart => exact ⟨0, 2401, fun _ => 0, f0, hd RG.out.symm, hd (by have := (gb_start F0'.out h24).s0; omega), hd (gb_start F0'.out h24), GR0, HB4⟩
  case round =>
    clear GR0 HB4 RG F0'
    obtain ⟨wo, hwo⟩ : ∃ wo : World, wo = wr := ⟨_, rfl⟩
    subst hwo
    obtain ⟨n, fu, c, f, HG, HFU, HGB, HR, HB⟩ := hrel
    have MX := hd (slicesMax_any (.slice (some ⟨g2, 0, none⟩) S cap2) (lst f S) wo (by rw [lst_len]; exact own_sl HR.out.rf (by unfold maxLen; omega)) (by rw [lst_len]; exact h0))
    have MI := hd (max_iff (f := f) h0)
    rw [lst_len] at MX
    generalize maxTo (lst f S) S = mx at *
    by_cases hs : sumF f S ≤ 0
    · have hm : ¬ (0 : Int) < mx := fun h => by have := MI.out.1 h; omega
      have RS := hd (HG.out.symm.trans (greedy_done HFU.out hs))
      have GE := hd (GS.out c RS.out)
      go_wp2_with (go_at_call 22; refine MX.out.mono ?_; rintro e w' ⟨rfl, hw⟩; subst hw)
      have HSTART := hd (gsel_start (w := w) HR.out HB.out.size)
      have HBL := hd (show Below w.heap.size w ((wo.alloc (.cells #[] 9)).alloc (.cells #[] 2)) from below_tr (((Below.refl wo.heap.size wo).alloc (Nat.le_refl _) _).alloc (by simp) _) HB.out)
      have HR2 := hd (show GRows ((wo.alloc (.cells #[] 9)).alloc (.cells #[] 2)) _ _ _ _ _ _ _ _ _ from HR.out.below (((Below.refl wo.heap.size wo).alloc (Nat.le_refl _) _).alloc (by simp) _))
      have SL := hd (fun i => sel_len ts c i)
      have C0 := hd (fun i => (HGB.out.c0 i).1)
      have C1 := hd (fun i => show c i ≤ 2400 from by have := (HGB.out.c0 i).2; have := HGB.out.s0; have := sum_nonneg f S; omega)
      go_loopw [19, 20, 110] (fun o1 o2 ix wr => ∃ i : Nat, i ≤ N ∧ ix = .int .i64 i ∧ Hid (GSel wr w.heap.size (.slice A0 N cap0) (.slice (some ⟨g1, 0, none⟩) N N) (.slice (some ⟨g2, 0, none⟩) S cap2) o1 o2 ts c i) ∧ Hid (GRows wr w.heap.size S N (.slice A0 N cap0) (.slice (some ⟨g1, 0, none⟩) N N) (.slice (some ⟨g2, 0, none⟩) S cap2) ts c f) ∧ Hid (Below w.heap.size w wr)) (fun _ _ ix _ => N - (intOf ix).toNat)
      case atStart => exact ⟨0, by omega, rfl, HSTART, HR2, HBL⟩
      case round =>
        clear HSTART HR2 HBL HR HB MX MI hm
        obtain ⟨i, hi, rfl, HS, HR, HB⟩ := hrel
        by_cases hlt : i < N
        · have ci := row_cell HR.out.rc hlt
          obtain ⟨ga, rfl, ct⟩ := text_cell HR.out.rt (by unfold maxLen; omega) hlt
          have i1 : (0 : Int) ≤ (i : Int) := by omega
          have i2 : (i : Int) < (N : Int) := by omega
          have c0 := C0.out i
          have c1 := C1.out i
          have sl := (SL.out i).2
          by_cases hp : 0 < c i
          · have TK := hd (fun W1 W2 p1 p2 k1 g1' h1 k2 g2' h2 => gsel_take (W1 := W1) (W2 := W2) (p1 := p1) (p2 := p2) HS.out HR.out hp k1 g1' h1 k2 g2' h2)
            generalize ts.getD i ⟨#[]⟩ = tx at *
            generalize c i = ci' at *
            go_wp2_with (first
              | (at_builtin; refine wpList_app_string _ _ _ rfl _ _ rfl w.heap.size (selC c i).length _ _ rfl HS.out.s1 rfl _ rfl rfl (by omega) HB.out.size ?_; intro p1 w5 ho5 hg5 hap5; have HO5 := hd ho5; have HG5 := hd hg5; have HA5 := hd hap5; have HS2 := hd (own_kept HS.out.s2 hg5 (dj_symm HS.out.d)); have HB5 := hd (below_row hg5 HB.out (own_row HS.out.s1 (Nat.le_refl _))); clear ho5 hg5 hap5)
              | (at_builtin; go_must (refine wpList_app_int _ _ _ rfl _ _ rfl w.heap.size (selC c i).length _ _ rfl HS2.out rfl _ rfl rfl (by omega) HB5.out.size ?_); intro p2 w6 ho6 hg6 hap6))
            go_roundw
            case rel =>
              have tk := TK.out _ _ _ _ HO5.out HG5.out HA5.out ho6 hg6 hap6
              exact ⟨i + 1, by omega, by go_num, hd tk.1, hd tk.2, hd (below_row hg6 HB5.out (own_row HS2.out (Nat.le_refl _)))⟩
            case measure => simp [intOf]; omega
          · go_wp2
            go_roundw
            case rel => exact ⟨i + 1, by omega, by go_num, hd (gsel_skip HS.out hp), HR, HB⟩
            case measure => simp [intOf]; omega
        · have e : i = N := by omega
          subst e
          have HNN := HN.out
          go_wp2
          go_ret3
          rw [GE.out]
          have sl := (SL.out i).1
          exact ⟨_, _, rfl, by dsimp only; rw [sl]; exact HS.out.s1, HS.out.s2, HS.out.d, HB.out⟩
    · have hm : (0 : Int) < mx := MI.out.2 (by omega)
      have hs2 := hd hs
      clear hs
      go_wp2_with (go_at_call 22; refine MX.out.mono ?_; rintro e w' ⟨rfl, hw⟩; subst hw)
      clear hm MI MX
      go_loop [11, 12, 50] (fun be mo ix => ∃ i : Nat, i ≤ N ∧ ix = .int .i64 i ∧ be = .int .i64 (bestT ts f S i).1 ∧ mo = .int .i64 ((bestT ts f S i).2 : Nat)) (fun _ _ ix => N - (intOf ix).toNat)
      case atStart => exact ⟨0, by omega, rfl, rfl, rfl⟩
      case round =>
        obtain ⟨i, hi, rfl, rfl, rfl⟩ := hrel
        by_cases hlt : i < N
        · obtain ⟨ga, rfl, ct⟩ := text_cell HR.out.rt (by unfold maxLen; omega) hlt
          have i1 : (0 : Int) ≤ (i : Int) := by omega
          have i2 : (i : Int) < (N : Int) := by omega
          have tsz := TS.out i hlt
          have BY := hd (fun h => best_yes (ts := ts) (f := f) (S := S) (i := i) h)
          have BN := hd (fun h => best_no (ts := ts) (f := f) (S := S) (i := i) h)
          have BB := best_bd ts f S i
          obtain ⟨BB1, BB2, BB3, _⟩ := BB
          generalize ts.getD i ⟨#[]⟩ = tx at *
          generalize hp1 : (bestT ts f S i).1 = p1 at *
          have HP1 := hd hp1
          clear hp1
          generalize hp2 : (bestT ts f S i).2 = p2 at *
          have HP2 := hd hp2
          clear hp2
          have HTZ := hd tsz
          clear tsz
          go_wp2
          go_loop [15, 57] (fun gn ix => ∃ k : Nat, k ≤ S ∧ ix = .int .i64 k ∧ gn = .int .i64 (gainT tx f k : Nat)) (fun _ ix => S - (intOf ix).toNat)
          case atStart => exact ⟨0, by omega, rfl, rfl⟩
          case round =>
            obtain ⟨k, hk, rfl, rfl⟩ := hrel
            have gle := gain_le tx f k
            by_cases hks : k < S
            · have fk := row_cell HR.out.rf hks
              obtain ⟨q, hq, hw⟩ := let_at HTZ.out hks
              have hq2 := hq (by have := HTZ.out; omega)
              have k1 : (0 : Int) ≤ (k : Int) := by omega
              have k2 : (k : Int) < (S : Int) := by omega
              have k3 : (k : Int) < (tx.size : Int) := by have := HTZ.out; omega
              have GY := hd (fun h hw => gain_yes (t := tx) (f := f) (k := k) h hw)
              have GNO := hd (fun h => gain_no (t := tx) (f := f) (k := k) h)
              have HW := hd hw
              generalize f k = fk' at *
              clear hq hw
              by_cases hp : 0 < fk'
              · by_cases hqq : q = 119
                · have e := GY.out hp (by rw [HW.out]; exact decide_eq_true hqq)
                  have HE := hd e
                  clear e
                  subst hqq
                  go_wp2
                  go_round
                  case rel => exact ⟨k + 1, by omega, by go_num, by rw [HE.out]; go_num⟩
                  case measure => simp [intOf]; omega
                · have HE := hd (GNO.out (.inr (by rw [HW.out]; exact decide_eq_false hqq)))
                  have hq9 : ((q : Int) == 119) = false := by simp; omega
                  clear hqq
                  go_wp2
                  go_round
                  case rel => exact ⟨k + 1, by omega, by go_num, by rw [HE.out]⟩
                  case measure => simp [intOf]; omega
              · have HE := hd (GNO.out (.inl hp))
                go_wp2
                go_round
                case rel => exact ⟨k + 1, by omega, by go_num, by rw [HE.out]⟩
                case measure => simp [intOf]; omega
            · have e : k = S := by omega
              subst e
              by_cases hgt : p2 < gainT tx f k
              · have HE := hd (BY.out hgt)
                generalize gainT tx f k = gg at *
                go_wp2
                go_round
                case rel => exact ⟨i + 1, by omega, by go_num, by rw [HE.out], by rw [HE.out]⟩
                case measure => simp [intOf]; omega
              · have HE := hd (BN.out hgt)
                generalize gainT tx f k = gg at *
                go_wp2
                go_round
                case rel => exact ⟨i + 1, by omega, by go_num, by rw [HE.out, HP1.out], by rw [HE.out, HP2.out]⟩
                case measure => simp [intOf]; omega
        · have e : i = N := by omega
          subst e
          have HNN := HN.out
          obtain ⟨_, q2, q3, q4⟩ := best_bd ts f S i
          by_cases hneg : (bestT ts f S i).1 < 0
          · have HE := hd (GN.out (HG.out.symm.trans (greedy_none (c := c) (by have := hs2.out; omega) (by rw [← HNN]; exact hneg))))
            clear HNN
            generalize (bestT ts f S i).1 = pp at *
            go_wp2
            go_ret3
            rw [HE.out]
            exact ⟨_, _, rfl, World.ownsRow_nil _ _ _ _, World.ownsRow_nil _ _ _ _, fun k h => by simp [Value.ownBlock] at h, HB.out⟩
          · obtain ⟨b, hb⟩ : ∃ b : Nat, (bestT ts f S i).1 = (b : Int) := ⟨(bestT ts f S i).1.toNat, by omega⟩
            have hbN : b < i := by omega
            rw [hb]
            have HBB : (bestT ts f S ts.length).1 = (b : Int) := by rw [← HNN]; exact hb
            obtain ⟨m, hm, hgs⟩ := greedy_step (c := c) HFU.out (by have := hs2.out; omega) HBB
            obtain ⟨gb1, gb2⟩ := gb_step HGB.out HBB
            obtain ⟨tx, htx⟩ : ∃ tx, tx = ts.getD b ⟨#[]⟩ := ⟨_, rfl⟩
            have TZ := TS.out b hbN
            rw [← htx] at hgs gb1 gb2 TZ
            have HTZ := hd TZ
            have HTX := hd htx
            have HSW := hd (sumW_row HR.out.rf)
            clear htx TZ
            have HM := hd hm; have HGS := hd hgs; have GB1 := hd gb1; have GB2 := hd gb2
            clear hm hgs gb1 gb2 HBB HNN hb hneg q2 q3 q4
            have cb := row_cell HR.out.rc hbN
            have cb0 := (HGB.out.c0 b).1
            have cb1 : c b ≤ 2400 := by have := (HGB.out.c0 b).2; have := HGB.out.s0; have := sum_nonneg f S; omega
            have j1 : (0 : Int) ≤ (b : Int) := by omega
            have j2 : (b : Int) < (i : Int) := by omega
            have SA := hd (set_add (c := c) (n := i) (b := b))
            generalize hcb : c b = cb' at *
            have HCB := hd hcb
            clear hcb
            go_wp2_with (((with_reducible refine wpList_store_own _ w.heap.size 2 1 i i g1 _ HR.out.rc size_int ?_ ?_ ?_ ?_ ?_ ?_ ?_); rotate_left 2; exact rfl; exact rfl; exact rfl; omega; intro w6 ho7 hg7))
            have hr6 := HR.out.setc (c' := addF b c) GD.out (by
              have e : w6.ownsRow w.heap.size 2 1 (.slice (some ⟨g1, 0, none⟩) i i) i (((lst c i).map vi).set b (.int .i64 (cb' + 1))) := ho7
              rw [SA.out] at e
              exact e) hg7
            have HR6 := hd hr6
            have HB6 := hd (below_row hg7 HB.out (own_row HR.out.rc (Nat.le_refl _)))
            clear hr6 ho7 hg7 cb SA
            have F1 := hd (fun j (hj : j < S) => show -2400 ≤ f j ∧ f j ≤ 100 by have := HGB.out.f0 j hj; have := HGB.out.s0; have := sum_nonneg f S; omega)
            go_loopw [89] (fun ix wr => ∃ k : Nat, k ≤ S ∧ ix = .int .i64 k ∧ Hid (GRows wr w.heap.size S i (.slice A0 i cap0) (.slice (some ⟨g1, 0, none⟩) i i) (.slice (some ⟨g2, 0, none⟩) S cap2) ts (addF b c) (subF (tx) f k)) ∧ Hid (Below w.heap.size w wr)) (fun ix _ => S - (intOf ix).toNat)
            case atStart => exact ⟨0, by omega, rfl, by rw [sub_zero]; exact HR6, HB6⟩
            case round =>
              clear HR6 HB6 HR HB
              obtain ⟨k, hk, rfl, HR, HB⟩ := hrel
              by_cases hks : k < S
              · have fk := row_cell HR.out.rf hks
                rw [sub_at] at fk
                obtain ⟨ga, rfl, ct⟩ := text_cell HR.out.rt (by unfold maxLen; omega) hbN
                rw [← HTX.out] at ct
                obtain ⟨q, hq, hw⟩ := let_at HTZ.out hks
                have hq2 := hq (by have := HTZ.out; omega)
                have k1 : (0 : Int) ≤ (k : Int) := by omega
                have k2 : (k : Int) < (S : Int) := by omega
                have k3 : (k : Int) < ((tx).size : Int) := by have := HTZ.out; omega
                obtain ⟨f1, f2⟩ := F1.out k hks
                have SY := hd (fun h => set_sub (t := tx) (f := f) (n := S) (k := k) h)
                have SN := hd (fun h => sub_skip (t := tx) (f := f) (k := k) h)
                have HW := hd hw
                clear hw hq
                generalize f k = fk' at *
                by_cases hqq : q = 119
                · have hse := SY.out (by rw [HW.out]; exact decide_eq_true hqq)
                  have HSE := hd hse
                  clear hse SY SN
                  subst hqq
                  clear HW
                  go_wp2_with (((with_reducible refine wpList_store_own _ w.heap.size 2 1 S cap2 g2 _ HR.out.rf size_int ?_ ?_ ?_ ?_ ?_ ?_ ?_); rotate_left 2; exact rfl; exact rfl; exact rfl; omega; intro w7 ho8 hg8))
                  go_roundw
                  case rel =>
                    refine ⟨k + 1, by omega, by go_num, hd (HR.out.setf GD.out ?_ hg8), hd (below_row hg8 HB.out (own_row HR.out.rf (Nat.le_refl _)))⟩
                    have e : w7.ownsRow w.heap.size 2 1 (.slice (some ⟨g2, 0, none⟩) S cap2) S (((lst (subF tx f k) S).map vi).set k (.int .i64 (fk' - 1))) := ho8
                    rw [HSE.out] at e
                    exact e
                  case measure => simp [intOf]; omega
                · have hse := SN.out (by rw [HW.out]; exact decide_eq_false hqq)
                  have HSE := hd hse
                  have hq9 : ((q : Int) == 119) = false := by simp; omega
                  clear hse SY SN hqq HW
                  go_wp2
                  go_roundw
                  case rel => exact ⟨k + 1, by omega, by go_num, by rw [HSE.out]; exact HR, HB⟩
                  case measure => simp [intOf]; omega
              · have e : k = S := by omega
                subst e
                go_wp2
                go_roundw
                case rel => exact ⟨n + 1, m, addF b c, subF (tx) f k, hd (by rw [← HGS.out]; exact HG.out), hd (by have := GB2.out; have := HM.out; have := HFU.out; omega), GB1, HR, HB⟩
                case measure =>
                  rw [sumW_row HR.out.rf, HSW.out]
                  have := GB2.out
                  have := hs2.out
                  omega
end Go.Proofs.Ytfhcpfikakllbaa
