/- The hoist's period, on the reference's side. -/
import Derived.Test.YtpnbjfhcnjdohaaProg
import Derived.Test.YtpnbjfhcnjdohaaHoist
import Derived.Test.YtpnbjfhcnjdohaaStoreOwn
import Derived.Test.YtpnbjfhcnjdohaaBSlice
namespace Go.Proofs.Ytpnbjfhcnjdohaa
open Go.RowKit Plain
set_option linter.unusedVariables false
set_option linter.unusedSimpArgs false
attribute [local go_sem ↓] Go.wp_at_zero Go.wp_at_succ

theorem okH_soak {so mv : List Int} {P : Nat} (h : so.all (fun x => decide (x ≤ (P : Int))) = false) : okH so mv P = false := by rw [okH, h]; rfl
theorem okH_stop {so mv : List Int} {P i u : Nat} (hi : i < so.length + 1) (hu : u ≤ mvH mv i) (h : blockSt P (stH so mv i) (allSt P (stH so mv) (mvH mv) i) u = none) : okH so mv P = false := by
  have h1 : allSt P (stH so mv) (mvH mv) (i + 1) = none := by rw [allSt]; exact blockSt_stop h hu
  have h2 := allSt_stop h1 (show i + 1 ≤ so.length + 1 by omega)
  rw [okH, h2]; simp
theorem okH_yes {so mv : List Int} {P : Nat} {bs : List Bool} (h1 : so.all (fun x => decide (x ≤ (P : Int))) = true) (h2 : allSt P (stH so mv) (mvH mv) (so.length + 1) = some bs) : okH so mv P = true := by rw [okH, h1, h2]; rfl
/-- what is known of a period's slots while the moves are laid -/
def Laid (so mv : List Int) (P : Nat) (fr : Bool) (o : Option (List Bool)) (bs : List Bool) : Prop := bs.length = P ∧ (fr = true → so.all (fun x => decide (x ≤ (P : Int))) = true ∧ o = some bs) ∧ (fr = false → okH so mv P = false)

set_option maxHeartbeats 4000000 in
set_option maxRecDepth 100000 in
theorem specHoistPeriod_any (w : World) (v : Value) (so : List Int) (s : Sl w 1 v so.length (so.map vi)) (u : Value) (mv : List Int) (t : Sl w 1 u mv.length (mv.map vi)) (most : Int) :
    Calls Try.prog 14 #[v, u, .int .i64 most] w fun e w' => e = .returned (.tuple #[.int .i64 (MH so mv most).1, .bool (MH so mv most).2]) ∧ Below w.heap.size w w' := by
  have A1 := hd (fun w' h => l05Runs_any v so w' (s.below h))
  obtain ⟨A, cap, rfl, hcap, hr⟩ := s
  obtain ⟨A', cap', rfl, hcap', hr'⟩ := t
  have hm0 := hr.2.1
  have hm1 := hr'.2.1
  unfold maxLen at hm0 hm1
  cases h1 : manyIn so 1 12 0 1000 with
  | false =>
    have H := hd (MH_no (by rw [condH, h1]; rfl) : MH so mv most = (0, false))
    have A1' := hd (fun w' h => h1 ▸ A1.out w' h)
    clear h1 A1
    go_enter Try.func14, Try.ntmps14
    go_wp2_with (first | (go_at_call 31; refine (A1'.out _ (Below.refl _ _)).mono ?_; rintro e w' ⟨rfl, hw⟩; subst hw))
    go_ret2
    rw [H.out]
    exact ⟨rfl, Below.refl _ _⟩
  | true =>
    have A1' := hd (fun w' h => h1 ▸ A1.out w' h)
    clear A1
    have f1 := h1
    simp only [manyIn, Bool.and_eq_true, decide_eq_true_eq] at f1
    obtain ⟨n1, n2, n3⟩ := f1
    by_cases hl : mv.length = so.length + 1
    · cases h3 : inR most 1 10000 with
      | false =>
        have H := hd (MH_no (by rw [condH, h3]; simp) : MH so mv most = (0, false))
        have A3 := hd (fun w' => l00In_f most 1 10000 w' h3)
        clear h3 h1
        rw [hl]
        go_enter Try.func14, Try.ntmps14
        go_wp2_with (first | (go_at_call 31; refine (A1'.out _ (Below.refl _ _)).mono ?_; rintro e w' ⟨rfl, hw⟩; subst hw) | (go_at_call 24; refine (A3.out _).mono ?_; rintro e w' ⟨rfl, hw⟩; replace hw := hw.symm; subst hw))
        go_ret2
        rw [H.out]
        exact ⟨rfl, Below.refl _ _⟩
      | true =>
        have A3 := hd (fun w' => l00In_t most 1 10000 w' h3)
        obtain ⟨q1, q2⟩ := inR_iff.1 h3
        have BAD := hd (fun (h : mv.all (inR · 1 100) = false) => (MH_no (by rw [condH, h]; simp) : MH so mv most = (0, false)))
        have CD := hd (fun (h : mv.all (inR · 1 100) = true) => (show condH so mv most = true from by rw [condH, h1, h, h3, decide_eq_true hl]; rfl))
        have SB0 := hd (fun (h : mv.all (inR · 1 100) = true) i hi => stH_bd n3 h hl i hi)
        have MB0 := hd (fun (h : mv.all (inR · 1 100) = true) i (hi : i < so.length + 1) => mvH_bd h i (by omega))
        have OB := hd (fun i (hi : i < so.length) => soH_bd n3 i hi)
        have SS := hd (fun i => (show ((stH so mv (i + 1) : Nat) : Int) = (stH so mv i : Int) + (((mv.getD i 0).toNat : Nat) : Int) + (((so.getD i 0).toNat : Nat) : Int) from by rw [stH]; push_cast; rfl))
        have GS := hd (fun n i (h : i < n) => stL_getD (so := so) (mv := mv) h)
        have GN := hd (fun n => stL_succ so mv n)
        have S0 := hd (show stH so mv 0 = 0 from rfl)
        have LEN := hd hl
        rw [hl] at hr' hcap' hm1
        rw [hl]
        clear h1 h3 n3
        generalize hm : so.length = m at *
        have Hm := hd hm
        clear hm hl
        go_enter Try.func14, Try.ntmps14
        go_wp2_with (first | (go_at_call 31; refine (A1'.out _ (Below.refl _ _)).mono ?_; rintro e w' ⟨rfl, hw⟩; subst hw) | (go_at_call 24; refine (A3.out _).mono ?_; rintro e w' ⟨rfl, hw⟩; replace hw := hw.symm; subst hw))
        clear A1' A3
        have hstart := World.ownsRow_made (size := 1) w #[] 0 (Nat.le_refl _) (by unfold maxLen; omega) rfl (e := 2)
        go_loopw [8, 9, 36] (fun out at' ix wr => ∃ k : Nat, k ≤ m + 1 ∧ ix = .int .i64 k ∧ (∃ x : Int, at' = .int .i64 x ∧ (k ≤ m → x = stH so mv k) ∧ 0 ≤ x ∧ x ≤ 1100 * k) ∧ Hid ((mv.take k).all (inR · 1 100) = true) ∧ wr.ownsRow w.heap.size 2 1 out k ((stL so mv k).map vi) ∧ Below w.heap.size w wr) (fun _ _ ix _ => m + 1 - (intOf ix).toNat)
        case atStart => exact ⟨0, by omega, rfl, ⟨0, rfl, fun _ => by rw [S0.out]; rfl, by omega, by omega⟩, hd (by simp), by simpa [stL] using hstart, (Below.refl _ _).alloc (Nat.le_refl _) _⟩
        case round =>
          obtain ⟨k, hk, rfl, ⟨x, rfl, hx, x0, x1⟩, hall, ho, hb⟩ := hrel
          clear hstart
          by_cases hlt : k < m + 1
          · obtain ⟨b1, o1, rfl, c1w⟩ := hr'.int hlt
            obtain ⟨y, hy⟩ : ∃ y, mv[k]? = some y := ⟨_, List.getElem?_eq_getElem (by have := LEN.out; omega)⟩
            have hyd : mv.getD k 0 = y := by rw [List.getD_eq_getElem?_getD, hy]; rfl
            rw [hyd] at c1w
            have c1 := below_at hb c1w
            have C1W := hd c1w
            clear c1w
            have ss := SS.out k
            rw [hyd] at ss
            have Hy := hd hy
            have hxk := hx (by omega)
            have Ho := hd ho; have Hb := hd hb
            clear hy hyd ho hb hx
            cases hin : inR y 1 100 with
            | false =>
              have H := hd (BAD.out (all_false_of Hy.out hin))
              have L := hd (fun w' => l00In_f y 1 100 w' hin)
              clear hin
              go_wp2_with (go_at_call 24; refine (L.out _).mono ?_; rintro e w' ⟨rfl, hw⟩; replace hw := hw.symm; subst hw)
              go_ret2
              rw [H.out]
              exact ⟨rfl, Hb.out⟩
            | true =>
              have L := hd (fun w' => l00In_t y 1 100 w' hin)
              have HA := hd (all_take_of hall.out Hy.out hin)
              obtain ⟨y1, y2⟩ := inR_iff.1 hin
              clear hin
              have HGN := hd (GN.out k)
              have HXK := hd hxk
              have HSS := hd ss
              clear ss hxk
              by_cases hkm : k < m
              · obtain ⟨b0, o0, rfl, c0w⟩ := hr.int hkm
                obtain ⟨z1, z2⟩ := OB.out k hkm
                generalize so.getD k 0 = z at *
                have j1 : (k : Int) < (m : Int) := by omega
                have C0W := hd c0w
                clear c0w
                go_wp2_with (first
                  | (go_at_call 24; refine (L.out _).mono ?_; rintro e w' ⟨rfl, hw⟩; replace hw := hw.symm; subst hw)
                  | (at_builtin; go_must (refine wpList_app_int _ _ _ rfl _ _ rfl w.heap.size k _ _ rfl Ho.out rfl _ rfl (by simp) (by omega) (by have := Hb.out.size; omega) ?_); intro v' w1 ho1 hg1 hap; have hbw := below_row hg1 Hb.out (own_row Ho.out (Nat.le_refl _)); have c1' := below_at hbw C1W.out; have c0' := below_at hbw C0W.out))
                go_roundw
                case rel =>
                  refine ⟨k + 1, by omega, by go_num, ⟨_, rfl, fun _ => ?_, by omega, by push_cast; omega⟩, HA, ?_, hbw⟩
                  · rw [HSS.out, ← HXK.out]; omega
                  · rw [HGN.out, List.map_append, ← HXK.out]; exact ho1
                case measure => simp [intOf]; omega
              · have hkm' : k = m := by omega
                subst hkm'
                have j1 : ¬ ((k : Int) < (k : Int)) := by omega
                go_wp2_with (first
                  | (go_at_call 24; refine (L.out _).mono ?_; rintro e w' ⟨rfl, hw⟩; replace hw := hw.symm; subst hw)
                  | (at_builtin; go_must (refine wpList_app_int _ _ _ rfl _ _ rfl w.heap.size k _ _ rfl Ho.out rfl _ rfl (by simp) (by omega) (by have := Hb.out.size; omega) ?_); intro v' w1 ho1 hg1 hap; have hbw := below_row hg1 Hb.out (own_row Ho.out (Nat.le_refl _)); have c1' := below_at hbw C1W.out))
                go_roundw
                case rel =>
                  refine ⟨k + 1, by omega, by go_num, ⟨_, rfl, fun h => by omega, by omega, by push_cast; omega⟩, HA, ?_, hbw⟩
                  rw [HGN.out, List.map_append, ← HXK.out]; exact ho1
                case measure => simp [intOf]; try omega
          · have e : k = m + 1 := by omega
            subst e
            have hall2 := all_whole hall.out (show mv.length ≤ m + 1 by have := LEN.out; omega)
            have YS := hd (fun P h hp a b => MH_some (p := P) (CD.out hall2) h hp a b)
            have NS := hd (fun h => MH_none (CD.out hall2) h)
            have SB := hd (SB0.out hall2)
            have MB := hd (MB0.out hall2)
            obtain ⟨A4, cap4, rfl, hc4, hr4, hA4⟩ := own_rd ho (size_le (by omega))
            have hA4b : ∀ b o, A4 = some ⟨b, o, none⟩ → w.heap.size ≤ b ∧ b < wr.heap.size ∧ o = 0 := by
              intro b o e
              rcases hA4 with ⟨e', _⟩ | ⟨g, e', k1, k2⟩
              · rw [e'] at e; cases e
              · rw [e'] at e; cases e; exact ⟨k1, k2, rfl⟩
            have HR4 := hd hr4; have Hb := hd hb
            obtain ⟨ws, hws⟩ : ∃ z, z = wr := ⟨_, rfl⟩
            subst hws
            have HM := hd (fun P i u hi hu h => okH_stop (so := so) (mv := mv) (P := P) (i := i) (u := u) hi hu h)
            have HK := hd (fun P h => okH_soak (so := so) (mv := mv) (P := P) h)
            have HQ := hd (fun P bs a b => okH_yes (so := so) (mv := mv) (P := P) (bs := bs) a b)
            rw [Hm.out] at HM HQ
            have AZ := hd (fun P => (show allSt P (stH so mv) (mvH mv) 0 = some (List.replicate P false) from rfl))
            have AS := hd (fun P i => (show allSt P (stH so mv) (mvH mv) (i + 1) = blockSt P (stH so mv i) (allSt P (stH so mv) (mvH mv) i) (mvH mv i) from rfl))
            have BZ := hd (fun P s0 (b0 : Option (List Bool)) => (show blockSt P s0 b0 0 = b0 from rfl))
            have BS := hd (fun P s0 (b0 : Option (List Bool)) u0 l0 (h : blockSt P s0 b0 u0 = some l0) => (show blockSt P s0 b0 (u0 + 1) = if l0.getD ((s0 + u0) % P) false then none else some (l0.set ((s0 + u0) % P) true) from by rw [blockSt, h]))
            clear ho hb hr4 hA4 BAD CD SB0 MB0 hall2 hx
            rw [show ((m + 1 : Nat) : Int) = (m : Int) + 1 by push_cast; rfl]
            go_wp2
            go_loopw [11] (fun px wr2 => ∃ P : Nat, px = .int .i64 P ∧ 1 ≤ P ∧ (P : Int) ≤ 10001 ∧ Hid (∀ q, 1 ≤ q → q < P → okH so mv q = false) ∧ Below w.heap.size w wr2 ∧ Below ws.heap.size ws wr2) (fun px _ => 10001 - (intOf px).toNat)
            case atStart => exact ⟨1, rfl, by omega, by omega, hd (fun q h1 h2 => by omega), Hb.out, Below.refl _ _⟩
            case round =>
              obtain ⟨P, rfl, P1, P2, hno, hb, hbs⟩ := hrel
              clear Hb
              by_cases hle : (P : Int) ≤ most
              · have Hb := hd hb; have Hbs := hd hbs
                clear hb hbs
                go_wp2
                go_loopw [12, 73] (fun fr ix wr3 => ∃ k : Nat, k ≤ m ∧ ix = .int .i64 k ∧ fr = .bool ((so.take k).all (fun x => decide (x ≤ (P : Int)))) ∧ wr3 = wr) (fun _ ix _ => m - (intOf ix).toNat)
                case atStart => exact ⟨0, by omega, rfl, by simp, rfl⟩
                case round =>
                  obtain ⟨k, hk, rfl, rfl, hw⟩ := hrel
                  subst hw
                  by_cases hkm : k < m
                  · obtain ⟨z, hz⟩ : ∃ z, so[k]? = some z := ⟨_, List.getElem?_eq_getElem (by have := Hm.out; omega)⟩
                    obtain ⟨b0, o0, rfl, c0⟩ := (hr.below Hb.out).int hkm
                    rw [List.getD_eq_getElem?_getD, hz, Option.getD_some] at c0
                    have hs : (so.take (k + 1)).all (fun x => decide (x ≤ (P : Int))) = ((so.take k).all (fun x => decide (x ≤ (P : Int))) && decide (z ≤ (P : Int))) := by
                      rw [List.take_add_one, hz, List.all_append]; simp
                    have HS := hd hs
                    clear hs hz
                    generalize hfb : (so.take k).all (fun x => decide (x ≤ (P : Int))) = fb at *
                    clear hfb
                    cases fb with
                    | true =>
                      go_wp2
                      go_roundw
                      case rel => exact ⟨k + 1, by omega, by go_num, by rw [HS.out]; simp, by first | rfl | trivial⟩
                      case measure => simp [intOf]; omega
                    | false =>
                      go_wp2
                      go_roundw
                      case rel => exact ⟨k + 1, by omega, by go_num, by rw [HS.out]; simp, by first | rfl | trivial⟩
                      case measure => simp [intOf]; omega
                  · have e : k = m := by omega
                    subst e
                    have e2 : (so.take k).all (fun x => decide (x ≤ (P : Int))) = so.all (fun x => decide (x ≤ (P : Int))) := by rw [List.take_of_length_le (by have := Hm.out; omega)]
                    rw [e2]
                    have HL0 := hd (show Laid so mv P (so.all (fun x => decide (x ≤ (P : Int)))) (allSt P (stH so mv) (mvH mv) 0) (List.replicate P false) from ⟨by simp, fun h => ⟨h, AZ.out P⟩, fun h => HK.out P h⟩)
                    generalize so.all (fun x => decide (x ≤ (P : Int))) = fr0 at HL0 ⊢
                    clear e2
                    go_wp2_with (at_make; go_must (refine wpList_make_bool _ rfl _ rfl _ _ P rfl rfl (by omega) ?_); intro w5 ho5 hb5)
                    have hB5 := below_tr hb5 Hb.out
                    have hS5 := below_tr hb5 Hbs.out
                    generalize hgb : wr.heap.size = gb at *
                    have hg1 : w.heap.size ≤ gb := by rw [← hgb]; exact Hb.out.size
                    have hg2 : ws.heap.size ≤ gb := by rw [← hgb]; exact Hbs.out.size
                    have Hg1 := hd hg1; have Hg2 := hd hg2
                    have Ho5 := hd ho5; have HB5 := hd hB5; have HS5 := hd hS5
                    clear ho5 hb5 hB5 hS5 hgb hg1 hg2 Hb Hbs
                    go_loopw [12, 90] (fun frv ix wr4 => ∃ (i : Nat) (fr : Bool) (bs : List Bool), i ≤ k + 1 ∧ ix = .int .i64 i ∧ frv = .bool fr ∧ Laid so mv P fr (allSt P (stH so mv) (mvH mv) i) bs ∧ wr4.ownsRow gb 4 1 (.slice (some ⟨gb, 0, none⟩) P P) P (bs.map vb) ∧ Below w.heap.size w wr4 ∧ Below ws.heap.size ws wr4) (fun _ ix _ => k + 1 - (intOf ix).toNat)
                    case atStart => exact ⟨0, fr0, _, by omega, rfl, rfl, HL0.out, by simpa [vb] using Ho5.out, HB5.out, HS5.out⟩
                    case round =>
                      obtain ⟨i, fr, bs, hi, rfl, rfl, hlaid, ho, hb, hbs⟩ := hrel
                      clear Ho5 HB5 HS5 HL0
                      by_cases hik : i < k + 1
                      · obtain ⟨b2, o2, hA2, c2⟩ := (HR4.out.below hbs).int hik
                        obtain ⟨_, _, rfl⟩ := hA4b _ _ hA2
                        cases hA2
                        rw [GS.out (k + 1) i hik, Nat.zero_add] at c2
                        have s1 := SB.out i (by omega)
                        obtain ⟨y1, y2, y3⟩ := MB.out i hik
                        have HLD := hd hlaid; have Ho := hd ho; have HB := hd hb; have HBS := hd hbs
                        clear hlaid ho hb hbs
                        go_wp2
                        go_loopw [12, 16] (fun frv tv wr6 => ∃ (q : Nat) (fr : Bool) (bs : List Bool), tv = .int .i64 ((stH so mv i + q : Nat) : Int) ∧ q ≤ mvH mv i ∧ frv = .bool fr ∧ Laid so mv P fr (blockSt P (stH so mv i) (allSt P (stH so mv) (mvH mv) i) q) bs ∧ wr6.ownsRow gb 4 1 (.slice (some ⟨gb, 0, none⟩) P P) P (bs.map vb) ∧ Below w.heap.size w wr6 ∧ Below ws.heap.size ws wr6) (fun _ tv _ => stH so mv i + mvH mv i - (intOf tv).toNat)
                        case atStart => exact ⟨0, fr, bs, by rw [Nat.add_zero], by omega, rfl, by rw [BZ.out]; exact HLD.out, Ho.out, HB.out, HBS.out⟩
                        case round =>
                          obtain ⟨q, fr, bs, rfl, hq, rfl, hlaid, ho, hb, hbs⟩ := hrel
                          clear HLD Ho HB HBS c2
                          obtain ⟨b3, o3, hA3, c3⟩ := (HR4.out.below hbs).int hik
                          obtain ⟨_, _, rfl⟩ := hA4b _ _ hA3
                          cases hA3
                          rw [GS.out (k + 1) i hik, Nat.zero_add] at c3
                          obtain ⟨b4, o4, rfl, c4⟩ := (hr'.below hb).int hik
                          rw [y3] at c4
                          have hst := HM.out P i q hik hq
                          have hst1 := fun (h : q < mvH mv i) => HM.out P i (q + 1) hik (by omega)
                          have hbs1 := BS.out P (stH so mv i) (allSt P (stH so mv) (mvH mv) i) q
                          have has := AS.out P i
                          obtain ⟨hbl, hl1, hl2⟩ := hlaid
                          have HST1 := hd hst1; have HBS1 := hd hbs1; have HAS := hd has
                          generalize hM : mvH mv i = xm at *
                          generalize hS : stH so mv i = si at *
                          have HMM := hd hM; have HSS2 := hd hS
                          have Ho := hd ho; have HB := hd hb; have HBS := hd hbs
                          have w1 : IntKind.i64.wrap ((si : Int) + xm) = (si : Int) + xm := IntWalk.i64_in _ (by omega)
                          clear hst hst1 hbs1 has ho hb hbs hM hS
                          cases fr with
                          | false =>
                            have hok := hl2 rfl
                            have HOK := hd hok
                            clear hok hl1 hl2
                            by_cases hqm : q < xm
                            · have t1 : ((si + q : Nat) : Int) < (si : Int) + xm := by omega
                              go_wp2
                              go_quiet (fail)
                              clear w1
                              go_wp2
                              go_roundw
                              case rel => exact ⟨i + 1, false, bs, by omega, by go_num, rfl, ⟨hbl, (fun h => by cases h), fun _ => HOK.out⟩, Ho.out, below_drewN HB.out _, below_drewN HBS.out _⟩
                              case measure => simp [intOf]; omega
                            · have t1 : ¬ (((si + q : Nat) : Int) < (si : Int) + xm) := by omega
                              go_wp2
                              go_quiet (fail)
                              clear w1
                              go_wp2
                              go_roundw
                              case rel => exact ⟨i + 1, false, bs, by omega, by go_num, rfl, ⟨hbl, (fun h => by cases h), fun _ => HOK.out⟩, Ho.out, below_drewN HB.out _, below_drewN HBS.out _⟩
                              case measure => simp [intOf]; omega
                          | true =>
                            obtain ⟨hl3, hl4⟩ := hl1 rfl
                            have HL3 := hd hl3
                            clear hl1 hl2 hl3
                            by_cases hqm : q < xm
                            · have hbb := HBS1.out bs hl4
                              have hst2 := HST1.out hqm
                              rw [hbb] at hst2
                              have HBB := hd hbb; have HST2 := hd hst2
                              clear hbb hst2 hl4 HST1
                              obtain ⟨x, hx⟩ : ∃ x, x = si + q := ⟨_, rfl⟩
                              have hx2 : x ≤ 30000 := by omega
                              have t1 : (x : Int) < (si : Int) + xm := by omega
                              rw [← hx] at HBB HST2 ⊢
                              obtain ⟨j, hj⟩ : ∃ j, j = x % P := ⟨_, rfl⟩
                              have hjP : j < P := by rw [hj]; exact Nat.mod_lt _ (by omega)
                              rw [← hj] at HBB HST2
                              have hix : (x : Int) % (P : Int) = (j : Int) := by rw [hj]; push_cast; rfl
                              have r0 : ¬ ((P : Int) = 0) := by omega
                              have hcell := Ho.out.cellAt j (by omega)
                              have hcv : (bs.map vb)[j]? = some (.bool (bs.getD j false)) := by
                                rw [List.getElem?_map, List.getElem?_eq_getElem (by omega)]
                                simp [vb, List.getD_eq_getElem?_getD, show j < bs.length by omega]
                              rw [hcv] at hcell
                              have hlen2 : (bs.set j true).length = P := by simpa using hbl
                              have hrow : (bs.set j true).map vb = (bs.map vb).set j (vb true) := by rw [List.map_set]
                              have HX := hd hx; have HJ := hd hj; have HROW := hd hrow
                              have i1 : (0 : Int) ≤ (j : Int) := by omega
                              have i2 : (j : Int) < (P : Int) := by omega
                              clear hx hj hcv hrow
                              generalize bs.getD j false = y at *
                              have ho9 := fun nq => (show (World.drewN wr nq).ownsRow gb 4 1 (.slice (some ⟨gb, 0, none⟩) P P) P (bs.map vb) from Ho.out)
                              have HO9 := hd ho9
                              clear ho9
                              go_wp2
                              go_quiet (fail)
                              clear w1
                              cases y with
                              | true =>
                                have hno2 := HST2.out (by simp)
                                have HNO := hd hno2
                                clear hno2
                                go_wp2_with ((with_reducible refine wpList_store_own _ gb 4 1 P P gb _ (HO9.out _) size_bool ?_ ?_ ?_ ?_ ?_ ?_ ?_); rotate_left 2; exact rfl; exact rfl; exact rfl; omega; intro w6 ho7 hg7)
                                go_roundw
                                case rel =>
                                  have e : w6.ownsRow gb 4 1 (.slice (some ⟨gb, 0, none⟩) P P) P ((bs.map vb).set j (vb true)) := ho7
                                  rw [← HROW.out] at e
                                  refine ⟨q + 1, false, _, ?_, by omega, rfl, ⟨hlen2, (fun h => by cases h), fun _ => HNO.out⟩, e, below_row hg7 (below_drewN HB.out _) (fun r hr => by cases hr; exact Hg1.out), below_row hg7 (below_drewN HBS.out _) (fun r hr => by cases hr; exact Hg2.out)⟩
                                  rw [HX.out]; go_num
                                case measure => have := HX.out; simp [intOf]; omega
                              | false =>
                                have hb2 := HBB.out
                                simp only [Bool.false_eq_true, if_false] at hb2
                                have HB2 := hd hb2
                                clear hb2
                                go_wp2_with ((with_reducible refine wpList_store_own _ gb 4 1 P P gb _ (HO9.out _) size_bool ?_ ?_ ?_ ?_ ?_ ?_ ?_); rotate_left 2; exact rfl; exact rfl; exact rfl; omega; intro w6 ho7 hg7)
                                go_roundw
                                case rel =>
                                  have e : w6.ownsRow gb 4 1 (.slice (some ⟨gb, 0, none⟩) P P) P ((bs.map vb).set j (vb true)) := ho7
                                  rw [← HROW.out] at e
                                  refine ⟨q + 1, true, _, ?_, by omega, rfl, ⟨hlen2, fun _ => ⟨HL3.out, HB2.out⟩, (fun h => by cases h)⟩, e, below_row hg7 (below_drewN HB.out _) (fun r hr => by cases hr; exact Hg1.out), below_row hg7 (below_drewN HBS.out _) (fun r hr => by cases hr; exact Hg2.out)⟩
                                  rw [HX.out]; go_num
                                case measure => have := HX.out; simp [intOf]; omega
                            · have e : q = xm := by omega
                              subst e
                              have hl5 := HAS.out.trans hl4
                              have HL5 := hd hl5
                              have t1 : ¬ (((si + q : Nat) : Int) < (si : Int) + q) := by omega
                              clear hl4 hl5
                              go_wp2
                              go_quiet (fail)
                              clear w1
                              go_wp2
                              go_roundw
                              case rel => exact ⟨i + 1, true, bs, by omega, by go_num, rfl, ⟨hbl, fun _ => ⟨HL3.out, HL5.out⟩, (fun h => by cases h)⟩, Ho.out, below_drewN HB.out _, below_drewN HBS.out _⟩
                              case measure => simp [intOf]; omega
                      · have e : i = k + 1 := by omega
                        subst e
                        obtain ⟨hbl, hl1, hl2⟩ := hlaid
                        have HB := hd hb; have HBS := hd hbs
                        clear hb hbs
                        cases fr with
                        | true =>
                          obtain ⟨hl3, hl4⟩ := hl1 rfl
                          have H := hd (YS.out P hno.out (HQ.out P bs hl3 hl4) (by omega) hle)
                          clear hl1 hl2 hl3 hl4
                          go_wp2
                          go_ret2
                          rw [H.out]
                          exact ⟨rfl, HB.out⟩
                        | false =>
                          have hok := hl2 rfl
                          have HN := hd (show ∀ q, 1 ≤ q → q < P + 1 → okH so mv q = false from fun q h1 h2 => by
                            by_cases e : q = P
                            · subst e; exact hok
                            · exact hno.out q h1 (by omega))
                          clear hl1 hl2 hok
                          go_wp2
                          go_roundw
                          case rel => exact ⟨P + 1, by go_num, by omega, by omega, HN, HB.out, HBS.out⟩
                          case measure => simp [intOf]; omega
              · have H := hd (NS.out (fun q h1 h2 => hno.out q h1 (by omega)))
                go_wp2
                go_ret2
                rw [H.out]
                exact ⟨rfl, hb⟩
    · have H := hd (MH_no (by rw [condH, decide_eq_false hl]; simp) : MH so mv most = (0, false))
      have hl' : ((mv.length : Int) != (so.length : Int) + 1) = true := by rw [bne_iff_ne]; omega
      clear h1 hl
      go_enter Try.func14, Try.ntmps14
      go_wp2_with (first | (go_at_call 31; refine (A1'.out _ (Below.refl _ _)).mono ?_; rintro e w' ⟨rfl, hw⟩; subst hw))
      go_ret2
      rw [H.out]
      exact ⟨rfl, Below.refl _ _⟩
end Go.Proofs.Ytpnbjfhcnjdohaa
