/- CoverOf, the program's side. -/
import Derived.Test.YtfofokofphcdnaaDoorProg
import Derived.Test.YtfofokofphcdnaaDoorCovM
import Derived.Test.YtfofokofphcdnaaDoorTextS
import Derived.Test.YtfofokofphcdnaaDoorNum
import Derived.Test.YtfofokofphcdnaaDoorIsW
import Derived.Sort.AtCall
import Derived.StillTailTactics
namespace Go.Proofs.YtfofokofphcdnaaDoor
open Go.RowKit Plain
set_option linter.unusedVariables false
set_option linter.unusedSimpArgs false
attribute [local go_sem ↓] Go.wp_at_zero Go.wp_at_succ
set_option maxHeartbeats 4000000 in
set_option maxRecDepth 100000 in
theorem implCover_any (w : World) (v0 : Value) (ts : List ByteArray) (i0 : ∀ x ∈ ts, x.size ≤ maxLen) (s0 : Sl w 1 v0 ts.length (strs ts)) (v1 : Value) (cs : List Int) (s1 : Sl w 1 v1 cs.length (cs.map vi)) :
    Calls Tryd.prog 8 #[v0, v1] w (OutL 2 1 (cM ts cs).1.length ((cM ts cs).1.map vi) (fun u => .tuple #[u, .bool (cM ts cs).2]) w) := by
  have SM := hd (fun (k : Nat) (h : k < ts.length) => getD_size i0 h)
  obtain ⟨A, cap, rfl, hcap, hr⟩ := s0
  have AM := hd (areMany_any v1 cs (ts.length : Int) (ts.length : Int) 0 1000 w s1)
  have IW := hd (fun (k : Nat) (h : k < ts.length) w' => isWork_any (ts.getD k ⟨#[]⟩) w' (getD_size i0 h))
  obtain ⟨B, cap1, rfl, hcap1, hr1⟩ := s1
  have hm0 := hr.2.1
  have hm1 := hr1.2.1
  unfold maxLen at hm0 hm1
  have NO := hd (fun (h : okC ts cs = false) => cM_no h)
  have YES := hd (fun (h : okC ts cs = true) => cM_yes h)
  clear i0
  by_cases h1 : 1 ≤ ts.length
  rotate_left
  · have HE := hd (NO.out (by rw [okC]; cases hT : okT ts with | false => rfl | true => exact absurd (okT_parts hT).1 h1))
    rw [HE.out]
    clear YES NO
    generalize ts.length = n at *
    generalize cs.length = m at *
    go_enter Tryd.func8, Tryd.ntmps8
    go_wp2
    go_ret2
    exact ⟨_, rfl, World.ownsRow_nil _ _ _ _, Below.refl _ _⟩
  by_cases h2 : ts.length ≤ 64
  rotate_left
  · have HE := hd (NO.out (by rw [okC]; cases hT : okT ts with | false => rfl | true => exact absurd (okT_parts hT).2.1 h2))
    rw [HE.out]
    clear YES NO
    generalize ts.length = n at *
    generalize cs.length = m at *
    go_enter Tryd.func8, Tryd.ntmps8
    go_wp2
    go_ret2
    exact ⟨_, rfl, World.ownsRow_nil _ _ _ _, Below.refl _ _⟩
  cases hmm : manyIn cs ts.length ts.length 0 1000 with
  | false =>
    have HE := hd (NO.out (by rw [okC, hmm, Bool.and_false]))
    rw [HE.out]
    rw [hmm] at AM
    clear YES NO hmm
    generalize ts.length = n at *
    generalize cs.length = m at *
    go_enter Tryd.func8, Tryd.ntmps8
    go_wp2_with (go_at_call 16; refine AM.out.mono ?_; rintro e w' ⟨rfl, hw⟩; subst hw)
    go_ret2
    exact ⟨_, rfl, World.ownsRow_nil _ _ _ _, Below.refl _ _⟩
  | true =>
    rw [hmm] at AM
    obtain ⟨hlen, MC⟩ := many_at hmm
    have MC := hd MC
    obtain ⟨b, off, rfl, hc0⟩ := hr.strD (show 0 < ts.length by omega)
    rw [Nat.add_zero] at hc0
    have m0 := SM.out 0 (by omega)
    unfold maxLen at m0
    have WI := hd (within_any ((ts.getD 0 ⟨#[]⟩).size : Int) 1 24 w)
    cases hsz : inR ((ts.getD 0 ⟨#[]⟩).size : Int) 1 24 with
    | false =>
      have HE := hd (NO.out (by
        rw [okC]
        cases hT : okT ts with
        | false => rfl
        | true =>
          have := (okT_parts hT).2.2.1
          rw [inR_iff.2 (by omega)] at hsz
          cases hsz))
      rw [HE.out]
      rw [hsz] at WI
      rw [hlen] at AM hr1 hcap1 hm1 ⊢
      clear YES NO hmm hsz MC SM IW hlen HE
      generalize ts.getD 0 ⟨#[]⟩ = t0 at *
      generalize ts.length = n at *
      go_enter Tryd.func8, Tryd.ntmps8
      go_wp2_with (first
        | (go_at_call 16; refine AM.out.mono ?_; rintro e w' ⟨rfl, hw⟩; subst hw)
        | (go_at_call 17; refine WI.out.mono ?_; rintro e w' ⟨rfl, hw⟩; subst hw))
      go_ret2
      exact ⟨_, rfl, World.ownsRow_nil _ _ _ _, Below.refl _ _⟩
    | true =>
    rw [hsz] at WI
    have p3 := inR_iff.1 hsz
    have BAD := hd (fun (k : Nat) (h : k < ts.length) hb => NO.out (by rw [okC, okT_bad h hb]; rfl))
    have GOOD := hd (fun h => YES.out (by rw [okC, hmm, okT_mk h1 h2 (by omega) h]; rfl))
    clear YES NO hmm hsz
    rw [hlen] at AM hr1 hcap1 hm1 ⊢
    clear hlen
    obtain ⟨t0, ht0⟩ : ∃ t0, t0 = ts.getD 0 ⟨#[]⟩ := ⟨_, rfl⟩
    rw [← ht0] at p3 GOOD BAD hc0 WI m0
    clear ht0
    generalize hres : cM ts cs = R at *
    clear hres
    have FZ := hd (covF_zero ts cs)
    have FF := hd (fun i => covF_full ts cs t0.size i)
    have FE := hd (fun i => covF_end ts cs t0.size i)
    have FA := hd (fun i k => covF_at ts cs i k)
    have HIT := hd (fun i k h j => covF_hit (ts := ts) (cs := cs) (i := i) (k := k) h j)
    have MISS := hd (fun i k h => covF_miss (ts := ts) (cs := cs) (i := i) (k := k) h)
    have BD := hd (fun s i h => covC_bd (ts := ts) (cs := cs) (s := s) i h)
    generalize hn : ts.length = n at *
    clear hn
    go_enter Tryd.func8, Tryd.ntmps8
    go_wp2_with (first
      | (go_at_call 16; refine AM.out.mono ?_; rintro e w' ⟨rfl, hw⟩; subst hw)
      | (go_at_call 17; refine WI.out.mono ?_; rintro e w' ⟨rfl, hw⟩; subst hw)
      | (at_make; go_must (refine wpList_make_int _ rfl _ rfl _ _ t0.size rfl rfl (by omega) ?_); intro w2 ho2 hb2))
    have HB2 := hd hb2
    have HR0 := hd (show w2.ownsRow w.heap.size 2 1 (.slice (some ⟨w.heap.size, 0, none⟩) t0.size t0.size) t0.size ((lst (covF ts cs 0 0) t0.size).map vi) by
      rw [FZ.out, lst_zero]
      simpa [vi] using ho2)
    obtain ⟨g, hg⟩ : ∃ g, g = w.heap.size := ⟨_, rfl⟩
    rw [← hg] at ⊢
    have HR0 := hd (show w2.ownsRow w.heap.size 2 1 (.slice (some ⟨g, 0, none⟩) t0.size t0.size) t0.size ((lst (covF ts cs 0 0) t0.size).map vi) by rw [hg]; exact HR0.out)
    clear hg ho2 hb2 AM WI hc0
    go_loopw [42] (fun ix wr => ∃ i : Nat, i ≤ n ∧ ix = .int .i64 i ∧ Hid (∀ j, j < i → (ts.getD j ⟨#[]⟩).size = t0.size ∧ letB (ts.getD j ⟨#[]⟩) = true) ∧ Hid (wr.ownsRow w.heap.size 2 1 (.slice (some ⟨g, 0, none⟩) t0.size t0.size) t0.size ((lst (covF ts cs i 0) t0.size).map vi)) ∧ Hid (Below w.heap.size w wr)) (fun ix _ => n - (intOf ix).toNat)
    case atStart => exact ⟨0, by omega, rfl, hd (fun k hk => absurd hk (by omega)), HR0, HB2⟩
    case round =>
      clear HR0 HB2
      obtain ⟨wo, hwo⟩ : ∃ wo : World, wo = wr := ⟨_, rfl⟩
      subst hwo
      obtain ⟨i, hi, rfl, HP, HR, HB⟩ := hrel
      by_cases hlt : i < n
      · obtain ⟨bc, oc, rfl, hcc⟩ := (hr1.below HB.out).int hlt
        obtain ⟨b', off', he, hct⟩ := (hr.below HB.out).strD hlt
        cases he
        have i1 : (0 : Int) ≤ (i : Int) := by omega
        have i2 : (i : Int) < (n : Int) := by omega
        have mi := SM.out i hlt
        unfold maxLen at mi
        have I := hd (IW.out i hlt)
        have BI := hd (BAD.out i hlt)
        have SET := hd (fun k (h : cod (ts.getD i ⟨#[]⟩) k = 119) => cov_row (f := covF ts cs i k) (n := t0.size) (k := k) (covF ts cs i (k + 1)) (fun j _ => HIT.out i k h j))
        have SKIP := hd (fun k (h : ¬ cod (ts.getD i ⟨#[]⟩) k = 119) => MISS.out i k h)
        have CCC := hd (fun w' (h : Below w.heap.size w w') => (hr1.below h).int hlt)
        have B2 := hd (fun k => BD.out k i (fun j hj => MC.out j (by omega)))
        obtain ⟨n1, n2⟩ := MC.out i hlt
        obtain ⟨ti, hti⟩ : ∃ t, t = ts.getD i ⟨#[]⟩ := ⟨_, rfl⟩
        rw [← hti] at SET SKIP hct mi I BI
        have HTI := hd hti
        clear hti
        generalize hci : cs.getD i 0 = ci at *
        clear hci
        by_cases hsi : ti.size = t0.size
        rotate_left
        · have HE := hd (BI.out (fun h => hsi h.1))
          have hse : ((ti.size : Int) != (t0.size : Int)) = true := by simp; omega
          go_wp2
          go_ret2
          rw [HE.out]
          exact ⟨_, rfl, World.ownsRow_nil _ _ _ _, HB.out⟩
        have hse : ((ti.size : Int) != (t0.size : Int)) = false := by simp; omega
        have HSI := hd hsi
        clear hsi
        cases hlb : letB ti with
        | false =>
          have HE := hd (BI.out (fun h => by rw [hlb] at h; cases h.2))
          rw [hlb] at I
          clear hlb
          go_wp2_with (go_at_call 18; refine (I.out _).mono ?_; rintro e w5 ⟨rfl, hb5⟩)
          go_ret2
          rw [HE.out]
          exact ⟨_, rfl, World.ownsRow_nil _ _ _ _, below_tr hb5 HB.out⟩
        | true =>
          have HP2 := hd (show ∀ j, j < i + 1 → (ts.getD j ⟨#[]⟩).size = t0.size ∧ letB (ts.getD j ⟨#[]⟩) = true from fun j hj => by
            by_cases e : j = i
            · subst e; rw [← HTI.out]; exact ⟨HSI.out, hlb⟩
            · exact HP.out j (by omega))
          have TSI := hd (And.intro HSI.out hlb)
          rw [hlb] at I
          clear hlb BI
          go_wp2_with (go_at_call 18; refine (I.out _).mono ?_; rintro e w5 ⟨rfl, hb5⟩)
          replace HR := hd (own_below HR.out hb5)
          replace HB := hd (below_tr hb5 HB.out)
          clear hcc hct hb5
          go_loopw [59] (fun kx wk => ∃ k : Nat, k ≤ t0.size ∧ kx = .int .i64 k ∧ Hid (wk.ownsRow w.heap.size 2 1 (.slice (some ⟨g, 0, none⟩) t0.size t0.size) t0.size ((lst (covF ts cs i k) t0.size).map vi)) ∧ Hid (Below w.heap.size w wk)) (fun kx _ => t0.size - (intOf kx).toNat)
          case atStart => exact ⟨0, by omega, rfl, HR, HB⟩
          case round =>
            clear HR HB
            obtain ⟨k, hk, rfl, HR, HB⟩ := hrel
            by_cases hkS : k < t0.size
            · have fk := cov_cell HR.out hkS
              rw [FA.out] at fk
              have bk := B2.out k
              obtain ⟨bc', oc', he', hcc⟩ := CCC.out _ HB.out
              cases he'
              obtain ⟨q, hq256, hq, hcq⟩ := cov_let TSI.out.1 hkS
              have hq2 := hq (by have := TSI.out.1; omega)
              have k1 : (0 : Int) ≤ (k : Int) := by omega
              have k2 : (k : Int) < (t0.size : Int) := by omega
              have k3 : (k : Int) < (ti.size : Int) := by have := TSI.out.1; omega
              have SK := hd (SET.out k)
              have SN := hd (SKIP.out k)
              rw [hcq] at SK SN
              clear hq hcq
              generalize hck : covC ts cs k i = ck at *
              clear hck
              by_cases hw : q = 119
              · have SE := hd (SK.out (by omega))
                clear SK SN
                subst hw
                have HD := hd (show wr.drew.ownsRow w.heap.size 2 1 (.slice (some ⟨g, 0, none⟩) t0.size t0.size) t0.size ((lst (covF ts cs i k) t0.size).map vi) from HR.out)
                go_wp2
                have v1 : IntKind.i64.wrap (ck + ci) = ck + ci := IntWalk.i64_in _ (by omega)
                go_still_tail 10, (by kernel_rfl)
                change wpList _ _ _ _ _ wr.drew
                have t3 := HD.out
                clear v1
                go_wp2_with ((with_reducible refine wpList_store_own _ w.heap.size 2 1 t0.size t0.size g _ t3 size_int k (.int .i64 (ck + ci)) ?_ ?_ ?_ ?_ ?_); exact rfl; exact rfl; exact rfl; omega; intro w6 ho7 hg7)
                have e : w6.ownsRow w.heap.size 2 1 (.slice (some ⟨g, 0, none⟩) t0.size t0.size) t0.size (((lst (covF ts cs i k) t0.size).map vi).set k (.int .i64 (ck + ci))) := ho7
                rw [SE.out] at e
                have HR7 := hd e
                have HB7 := hd (below_row hg7 HB.out.drew (own_row HR.out (Nat.le_refl _)))
                clear e ho7 hg7 t3
                go_roundw
                case rel => exact ⟨k + 1, by omega, by go_num, HR7, HB7⟩
                case measure => simp [intOf]; omega
              · have SE := hd (SN.out (by omega))
                clear SK SN
                have hq9 : ((q : Int) == 119) = false := by simp; omega
                go_wp2
                go_roundw
                case rel => exact ⟨k + 1, by omega, by go_num, by rw [SE.out]; exact HR, HB⟩
                case measure => simp [intOf]; omega
            · have hkn : k = t0.size := by omega
              subst hkn
              have F := hd (FF.out i)
              go_wp2
              go_roundw
              case rel => exact ⟨i + 1, by omega, by go_num, HP2, by rw [← F.out]; exact HR, HB⟩
              case measure => simp [intOf]; omega
      · have hin : i = n := by omega
        subst hin
        have HE := hd (GOOD.out HP.out)
        have F := hd (FE.out i)
        go_wp2
        go_ret2
        rw [HE.out]
        refine ⟨_, rfl, ?_, HB.out⟩
        have := HR.out
        rw [F.out] at this
        dsimp only
        rw [lst_len]
        exact this
end Go.Proofs.YtfofokofphcdnaaDoor
