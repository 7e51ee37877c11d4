/- CoverOf, the reference's side. -/
import Derived.Test.YtfofokofphcdnaaDoorProg
import Derived.Test.YtfofokofphcdnaaDoorCovM
import Derived.Test.YtfofokofphcdnaaDoorTextS
import Derived.Test.YtfofokofphcdnaaDoorNum
import Derived.Sort.AtCall
import Derived.StillTailTactics
namespace Go.Proofs.YtfofokofphcdnaaDoor
open Go.RowKit Plain
set_option linter.unusedVariables false
set_option linter.unusedSimpArgs false
attribute [local go_sem ↓] Go.wp_at_zero Go.wp_at_succ
set_option maxHeartbeats 2000000 in
set_option maxRecDepth 100000 in
theorem l06Texts_any (v : Value) (ts : List ByteArray) (w : World) (s : Sl w 1 v ts.length (strs ts)) (hx : ∀ x ∈ ts, x.size ≤ maxLen) :
    Calls Tryd.prog 14 #[v] w fun e w' => e = .returned (.bool (okT ts)) ∧ Below w.heap.size w w' := by
  obtain ⟨A, cap, rfl, hcap, hr⟩ := s
  have hm0 := hr.2.1
  unfold maxLen at hm0
  have SM := hd (fun (k : Nat) (h : k < ts.length) => getD_size hx h)
  have BAD := hd (fun (k : Nat) (h : k < ts.length) hb => okT_bad (ts := ts) h hb)
  have MK := hd (fun a b c d => okT_mk (ts := ts) a b c d)
  have PA := hd (fun h => okT_parts (ts := ts) h)
  generalize hok : okT ts = ok at *
  generalize hn : ts.length = n at *
  clear hn hok hx
  by_cases h1 : 1 ≤ n
  rotate_left
  · have e : ok = false := by cases ok with | false => rfl | true => exact absurd (PA.out rfl).1 h1
    subst e
    go_enter Tryd.func14, Tryd.ntmps14
    go_wp2
    go_ret
    exact ⟨rfl, Below.refl _ _⟩
  by_cases h2 : n ≤ 64
  rotate_left
  · have e : ok = false := by cases ok with | false => rfl | true => exact absurd (PA.out rfl).2.1 h2
    subst e
    go_enter Tryd.func14, Tryd.ntmps14
    go_wp2
    go_ret
    exact ⟨rfl, Below.refl _ _⟩
  obtain ⟨b, off, rfl, hc0⟩ := hr.strD (show 0 < n by omega)
  rw [Nat.add_zero] at hc0
  have m0 := SM.out 0 (by omega)
  unfold maxLen at m0
  obtain ⟨t0, ht0⟩ : ∃ t0, t0 = ts.getD 0 ⟨#[]⟩ := ⟨_, rfl⟩
  have HT0 := hd ht0
  rw [← ht0] at hc0 m0 BAD MK PA
  clear ht0
  by_cases h3 : 1 ≤ t0.size ∧ t0.size ≤ 24
  rotate_left
  · have e : ok = false := by cases ok with | false => rfl | true => exact absurd (PA.out rfl).2.2.1 h3
    subst e
    by_cases h4 : 1 ≤ t0.size
    · have h5 : ¬ t0.size ≤ 24 := fun h => h3 ⟨h4, h⟩
      clear h3
      go_enter Tryd.func14, Tryd.ntmps14
      go_wp2
      go_ret
      exact ⟨rfl, Below.refl _ _⟩
    · clear h3
      go_enter Tryd.func14, Tryd.ntmps14
      go_wp2
      go_ret
      exact ⟨rfl, Below.refl _ _⟩
  obtain ⟨h4, h5⟩ := h3
  have hb0 := Below.refl w.heap.size w
  go_enter Tryd.func14, Tryd.ntmps14
  go_wp2
  go_loopw [3] (fun ix wr => ∃ i : Nat, i ≤ n ∧ ix = .int .i64 i ∧ Hid (∀ k, k < i → (ts.getD k ⟨#[]⟩).size = t0.size ∧ letB (ts.getD k ⟨#[]⟩) = true) ∧ Below w.heap.size w wr) (fun ix _ => n - (intOf ix).toNat)
  case atStart => exact ⟨0, by omega, rfl, hd (fun k hk => absurd hk (by omega)), hb0⟩
  case round =>
    clear hb0
    obtain ⟨i, hi, rfl, HP, HB⟩ := hrel
    by_cases hlt : i < n
    · obtain ⟨b', off', he, hci⟩ := (hr.below HB).strD hlt
      cases he
      have hcz := below_at HB hc0
      have mi := SM.out i hlt
      unfold maxLen at mi
      have i1 : (0 : Int) ≤ (i : Int) := by omega
      have i2 : (i : Int) < (n : Int) := by omega
      have BI := hd (BAD.out i hlt)
      obtain ⟨ti, hti⟩ : ∃ t, t = ts.getD i ⟨#[]⟩ := ⟨_, rfl⟩
      have HTI := hd hti
      rw [← hti] at hci mi BI
      clear hti
      have HBB := hd HB
      clear HB
      by_cases hsz : ti.size = t0.size
      · have hse : ((ti.size : Int) != (t0.size : Int)) = false := by simp; omega
        go_wp2
        go_quiet (fail)
        go_wp2
        go_loopw [4] (fun kx w2 => ∃ k : Nat, k ≤ ti.size ∧ kx = .int .i64 k ∧ Hid (∀ j, j < k → cod ti j = 119 ∨ cod ti j = 46) ∧ Below w.heap.size w w2) (fun kx _ => ti.size - (intOf kx).toNat)
        case atStart => exact ⟨0, by omega, rfl, hd (fun k hk => absurd hk (by omega)), below_drewN HBB.out _⟩
        case round =>
          obtain ⟨k, hk, rfl, HK, HB2⟩ := hrel
          clear hci hcz
          obtain ⟨b', off', he, hci⟩ := (hr.below HB2).strD hlt
          cases he
          rw [← HTI.out] at hci
          have HBC := hd HB2
          clear HB2
          by_cases hkt : k < ti.size
          · obtain ⟨q, hq256, hq, hcq⟩ := cov_let rfl hkt
            have hq2 := hq hkt
            have k1 : (0 : Int) ≤ (k : Int) := by omega
            have k2 : (k : Int) < (ti.size : Int) := by omega
            have KX := hd (fun (h : q = 119 ∨ q = 46) => show ∀ j, j < k + 1 → cod ti j = 119 ∨ cod ti j = 46 from fun j hj => by
              by_cases e : j = k
              · subst e
                rw [hcq]
                omega
              · exact HK.out j (by omega))
            have KB := hd (fun (h1 : ¬ q = 119) (h2 : ¬ q = 46) => BI.out (fun h => by
              have := letB_at hkt h.2
              rw [hcq] at this
              omega))
            clear hq hcq
            by_cases hw : q = 119
            · have K2 := hd (KX.out (.inl hw))
              subst hw
              go_wp2
              go_roundw
              case rel => exact ⟨k + 1, by omega, by go_num, K2, HBC.out⟩
              case measure => simp [intOf]; omega
            · by_cases hdot : q = 46
              · have K2 := hd (KX.out (.inr hdot))
                subst hdot
                go_wp2
                go_roundw
                case rel => exact ⟨k + 1, by omega, by go_num, K2, HBC.out⟩
                case measure => simp [intOf]; omega
              · have e := KB.out hw hdot
                subst e
                have n1 : ((q : Int) != 119) = true := by simp; omega
                have n2 : ((q : Int) != 46) = true := by simp; omega
                go_wp2
                go_ret
                exact ⟨rfl, HBC.out⟩
          · have hkn : k = ti.size := by omega
            subst hkn
            have P2 := hd (show ∀ j, j < i + 1 → (ts.getD j ⟨#[]⟩).size = t0.size ∧ letB (ts.getD j ⟨#[]⟩) = true from fun j hj => by
              by_cases e : j = i
              · subst e
                rw [← HTI.out]
                exact ⟨hsz, letB_mk HK.out⟩
              · exact HP.out j (by omega))
            go_wp2
            go_roundw
            case rel => exact ⟨i + 1, by omega, by go_num, P2, HBC.out⟩
            case measure => simp [intOf]; omega
      · have e : ok = false := BI.out (fun h => hsz h.1)
        subst e
        have hse : ((ti.size : Int) != (t0.size : Int)) = true := by simp; omega
        go_wp2
        go_quiet (fail)
        go_wp2
        go_ret
        exact ⟨rfl, below_drewN HBB.out _⟩
    · have hkn : i = n := by omega
      subst hkn
      have e : ok = true := MK.out h1 h2 ⟨h4, h5⟩ HP.out
      subst e
      go_wp2
      go_ret
      exact ⟨rfl, HB⟩

set_option maxHeartbeats 4000000 in
set_option maxRecDepth 100000 in
theorem specCover_any (w : World) (v0 : Value) (ts : List ByteArray) (i0 : ∀ x ∈ ts, x.size ≤ maxLen) (s0 : Sl w 1 v0 ts.length (strs ts)) (v1 : Value) (cs : List Int) (s1 : Sl w 1 v1 cs.length (cs.map vi)) :
    Calls Tryd.prog 5 #[v0, v1] w (OutL 2 1 (cM ts cs).1.length ((cM ts cs).1.map vi) (fun u => .tuple #[u, .bool (cM ts cs).2]) w) := by
  have TX := hd (l06Texts_any v0 ts w s0 i0)
  have SM := hd (fun (k : Nat) (h : k < ts.length) => getD_size i0 h)
  clear i0
  obtain ⟨A, cap, rfl, hcap, hr⟩ := s0
  obtain ⟨B, cap1, rfl, hcap1, hr1⟩ := s1
  have hm0 := hr.2.1
  have hm1 := hr1.2.1
  unfold maxLen at hm0 hm1
  have NO := hd (fun (h : okC ts cs = false) => cM_no h)
  have YES := hd (fun (h : okC ts cs = true) => cM_yes h)
  cases hT : okT ts with
  | false =>
    have HE := hd (NO.out (by rw [okC, hT]; rfl))
    rw [hT] at TX
    rw [HE.out]
    clear hT YES NO
    generalize ts.length = n at *
    generalize cs.length = m at *
    go_enter Tryd.func5, Tryd.ntmps5
    go_wp2_with (go_at_call 14; refine TX.out.mono ?_; rintro e w' ⟨rfl, hb⟩)
    go_ret2
    exact ⟨_, rfl, World.ownsRow_nil _ _ _ _, hb⟩
  | true =>
    by_cases hlen : cs.length = ts.length
    rotate_left
    · have HE := hd (NO.out (by rw [okC, many_len hlen, Bool.and_false]))
      rw [hT] at TX
      rw [HE.out]
      clear hT YES NO
      generalize ts.length = n at *
      generalize cs.length = m at *
      have hne : ((m : Int) != (n : Int)) = true := by simp; omega
      go_enter Tryd.func5, Tryd.ntmps5
      go_wp2_with (go_at_call 14; refine TX.out.mono ?_; rintro e w' ⟨rfl, hb⟩)
      go_ret2
      exact ⟨_, rfl, World.ownsRow_nil _ _ _ _, hb⟩
    obtain ⟨p1, p2, p3, p4⟩ := okT_parts hT
    have TS := hd p4
    have BAD := hd (fun (k : Nat) (h : k < ts.length) hb => NO.out (by rw [okC, many_bad h hb, Bool.and_false]))
    have GOOD := hd (fun h => YES.out (by rw [okC, hT, many_mk hlen h]; rfl))
    rw [hT] at TX
    clear hT YES NO p4
    rw [hlen] at hr1 hcap1 hm1
    obtain ⟨b, off, rfl, hc0⟩ := hr.strD (show 0 < ts.length by omega)
    rw [Nat.add_zero] at hc0
    obtain ⟨t0, ht0⟩ : ∃ t0, t0 = ts.getD 0 ⟨#[]⟩ := ⟨_, rfl⟩
    rw [← ht0] at p3 TS GOOD hc0
    clear ht0
    generalize hres : cM ts cs = R at *
    clear hres
    have FZ := hd (covF_zero ts cs)
    have FF := hd (fun i => covF_full ts cs t0.size i)
    have FE := hd (fun i => covF_end ts cs t0.size i)
    have FA := hd (fun i k => covF_at ts cs i k)
    have HIT := hd (fun i k h j => covF_hit (ts := ts) (cs := cs) (i := i) (k := k) h j)
    have MISS := hd (fun i k h => covF_miss (ts := ts) (cs := cs) (i := i) (k := k) h)
    have BD := hd (fun s i h => covC_bd (ts := ts) (cs := cs) (s := s) i h)
    generalize hn : ts.length = n at *
    clear hn
    have hne : ((n : Int) != (n : Int)) = false := by simp
    go_enter Tryd.func5, Tryd.ntmps5
    go_wp2_with (first
      | (go_at_call 14; refine TX.out.mono ?_; rintro e w1 ⟨rfl, hb1⟩; have HB1 := hd hb1; have hc1 := below_at hb1 hc0; clear hb1)
      | (at_make; go_must (refine wpList_make_int _ rfl _ rfl _ _ t0.size rfl rfl (by omega) ?_); intro w2 ho2 hb2))
    have HB2 := hd (below_tr hb2 HB1.out)
    have HR0 := hd (show w2.ownsRow w.heap.size 2 1 (.slice (some ⟨w1.heap.size, 0, none⟩) t0.size t0.size) t0.size ((lst (covF ts cs 0 0) t0.size).map vi) by
      rw [FZ.out, lst_zero]
      have := own_mono ho2 (show w.heap.size ≤ _ from HB1.out.size)
      simpa [vi] using this)
    obtain ⟨g, hg⟩ : ∃ g, g = w1.heap.size := ⟨_, rfl⟩
    rw [← hg] at HR0 ⊢
    clear hg ho2 hb2 hc1 HB1 TX hc0
    go_loopw [7] (fun ix wr => ∃ i : Nat, i ≤ n ∧ ix = .int .i64 i ∧ Hid (∀ j, j < i → inR (cs.getD j 0) 0 1000 = true) ∧ Hid (wr.ownsRow w.heap.size 2 1 (.slice (some ⟨g, 0, none⟩) t0.size t0.size) t0.size ((lst (covF ts cs i 0) t0.size).map vi)) ∧ Hid (Below w.heap.size w wr)) (fun ix _ => n - (intOf ix).toNat)
    case atStart => exact ⟨0, by omega, rfl, hd (fun k hk => absurd hk (by omega)), HR0, HB2⟩
    case round =>
      clear HR0 HB2
      obtain ⟨wo, hwo⟩ : ∃ wo : World, wo = wr := ⟨_, rfl⟩
      subst hwo
      obtain ⟨i, hi, rfl, HP, HR, HB⟩ := hrel
      by_cases hlt : i < n
      · obtain ⟨bc, oc, rfl, hcc⟩ := (hr1.below HB.out).int hlt
        have i1 : (0 : Int) ≤ (i : Int) := by omega
        have i2 : (i : Int) < (n : Int) := by omega
        have I := hd (l00In_any (cs.getD i 0) 0 1000 wo)
        have BI := hd (BAD.out i hlt)
        cases hin : inR (cs.getD i 0) 0 1000 with
        | false =>
          have HE := hd (BI.out hin)
          rw [hin] at I
          clear hin
          generalize cs.getD i 0 = ci at *
          go_wp2_with (go_at_call 15; refine I.out.mono ?_; rintro e w' ⟨rfl, hw⟩; subst hw)
          go_ret2
          rw [HE.out]
          exact ⟨_, rfl, World.ownsRow_nil _ _ _ _, HB.out⟩
        | true =>
          have HP2 := hd (show ∀ j, j < i + 1 → inR (cs.getD j 0) 0 1000 = true from fun j hj => by
            by_cases e : j = i
            · subst e; exact hin
            · exact HP.out j (by omega))
          have B2 := hd (fun k => BD.out k i (fun j hj => inR_iff.1 (HP.out j hj)))
          rw [hin] at I
          obtain ⟨n1, n2⟩ := inR_iff.1 hin
          clear hin BI
          have SET := hd (fun k (h : cod (ts.getD i ⟨#[]⟩) k = 119) => cov_row (f := covF ts cs i k) (n := t0.size) (k := k) (covF ts cs i (k + 1)) (fun j _ => HIT.out i k h j))
          have SKIP := hd (fun k (h : ¬ cod (ts.getD i ⟨#[]⟩) k = 119) => MISS.out i k h)
          have TSI := hd (TS.out i hlt)
          have CCC := hd (fun w' (h : Below w.heap.size w w') => (hr1.below h).int hlt)
          obtain ⟨ti, hti⟩ : ∃ t, t = ts.getD i ⟨#[]⟩ := ⟨_, rfl⟩
          rw [← hti] at SET SKIP TSI
          have HTI := hd hti
          clear hti
          generalize hci : cs.getD i 0 = ci at *
          clear hci
          go_wp2_with (go_at_call 15; refine I.out.mono ?_; rintro e w' ⟨rfl, hw⟩; subst hw)
          clear hcc
          go_loopw [8] (fun kx wk => ∃ k : Nat, k ≤ t0.size ∧ kx = .int .i64 k ∧ Hid (wk.ownsRow w.heap.size 2 1 (.slice (some ⟨g, 0, none⟩) t0.size t0.size) t0.size ((lst (covF ts cs i k) t0.size).map vi)) ∧ Hid (Below w.heap.size w wk)) (fun kx _ => t0.size - (intOf kx).toNat)
          case atStart => exact ⟨0, by omega, rfl, HR, HB⟩
          case round =>
            clear HR HB
            obtain ⟨k, hk, rfl, HR, HB⟩ := hrel
            by_cases hkS : k < t0.size
            · have fk := cov_cell HR.out hkS
              rw [FA.out] at fk
              have bk := B2.out k
              obtain ⟨b', off', he, hct⟩ := (hr.below HB.out).strD hlt
              cases he
              rw [← HTI.out] at hct
              obtain ⟨bc', oc', he', hcc⟩ := CCC.out _ HB.out
              cases he'
              obtain ⟨q, hq256, hq, hcq⟩ := cov_let TSI.out.1 hkS
              have hq2 := hq (by have := TSI.out.1; omega)
              have k1 : (0 : Int) ≤ (k : Int) := by omega
              have k2 : (k : Int) < (t0.size : Int) := by omega
              have k3 : (k : Int) < (ti.size : Int) := by have := TSI.out.1; omega
              have SK := hd (SET.out k)
              have SN := hd (SKIP.out k)
              rw [hcq] at SK SN
              clear hq hcq
              generalize hck : covC ts cs k i = ck at *
              clear hck
              by_cases hw : q = 119
              · have SE := hd (SK.out (by omega))
                clear SK SN
                subst hw
                have HD := hd (show wr.drew.ownsRow w.heap.size 2 1 (.slice (some ⟨g, 0, none⟩) t0.size t0.size) t0.size ((lst (covF ts cs i k) t0.size).map vi) from HR.out)
                go_wp2
                have v1 : IntKind.i64.wrap (ck + ci) = ck + ci := IntWalk.i64_in _ (by omega)
                go_still_tail 10, (by kernel_rfl)
                change wpList _ _ _ _ _ wr.drew
                have t3 := HD.out
                clear v1
                go_wp2_with ((with_reducible refine wpList_store_own _ w.heap.size 2 1 t0.size t0.size g _ t3 size_int k (.int .i64 (ck + ci)) ?_ ?_ ?_ ?_ ?_); exact rfl; exact rfl; exact rfl; omega; intro w6 ho7 hg7)
                have e : w6.ownsRow w.heap.size 2 1 (.slice (some ⟨g, 0, none⟩) t0.size t0.size) t0.size (((lst (covF ts cs i k) t0.size).map vi).set k (.int .i64 (ck + ci))) := ho7
                rw [SE.out] at e
                have HR7 := hd e
                have HB7 := hd (below_row hg7 HB.out.drew (own_row HR.out (Nat.le_refl _)))
                clear e ho7 hg7 t3
                go_roundw
                case rel => exact ⟨k + 1, by omega, by go_num, HR7, HB7⟩
                case measure => simp [intOf]; omega
              · have SE := hd (SN.out (by omega))
                clear SK SN
                have hq9 : ((q : Int) == 119) = false := by simp; omega
                go_wp2
                go_roundw
                case rel => exact ⟨k + 1, by omega, by go_num, by rw [SE.out]; exact HR, HB⟩
                case measure => simp [intOf]; omega
            · have hkn : k = t0.size := by omega
              subst hkn
              have F := hd (FF.out i)
              go_wp2
              go_roundw
              case rel => exact ⟨i + 1, by omega, by go_num, HP2, by rw [← F.out]; exact HR, HB⟩
              case measure => simp [intOf]; omega
      · have hin : i = n := by omega
        subst hin
        have HE := hd (GOOD.out HP.out)
        have F := hd (FE.out i)
        go_wp2
        go_ret2
        rw [HE.out]
        refine ⟨_, rfl, ?_, HB.out⟩
        have := HR.out
        rw [F.out] at this
        dsimp only
        rw [lst_len]
        exact this
end Go.Proofs.YtfofokofphcdnaaDoor
