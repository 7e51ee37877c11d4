/- The reference's cheapest haste: a contract. -/
import Derived.Test.YtdbojkanelmlkaaHstR
import Derived.Test.YtdbojkanelmlkaaProI
import Derived.Test.YtdbojkanelmlkaaLvlB
namespace Go.Proofs.Ytdbojkanelmlkaa
open Go.RowKit Plain
set_option linter.unusedVariables false
set_option linter.unusedSimpArgs false
attribute [local go_sem ↓] Go.wp_at_zero Go.wp_at_succ
theorem shCells_same (w : World) (b o n : Nat) (ts : List TK) {u v : Nat → Int} (h : ∀ i, i < n → u i = v i) : shCells w b o n ts u = shCells w b o n ts v := by
  refine List.map_congr_left fun j hj => ?_
  rw [List.mem_range] at hj
  rw [h (j / 4) (by omega)]
set_option maxHeartbeats 8000000 in
set_option maxRecDepth 100000 in
theorem HastePlanS_any (b c : Nat) (ts : List TK) (n : Nat) (w : World) (hT : TA w b 0 c ts n) (V1 V2 : Value) (most costs : List Int) (h1 : Sl w 1 V1 n (most.map vi)) (h2 : Sl w 1 V2 n (costs.map vi)) (n5 : n ≤ 5)
    (hm : ∀ i, i < n → 0 ≤ most.getD i 0 ∧ most.getD i 0 ≤ 3) (hc : ∀ i, i < n → 0 ≤ costs.getD i 0 ∧ costs.getD i 0 ≤ 1000) (goal : Int) (g0 : 0 ≤ goal) (g1 : goal ≤ 100000) :
    Calls Try.prog 13 #[.slice (some ⟨b, 0, none⟩) n c, V1, V2, .int .i64 goal] w (HasteOut ts most costs n goal w) := by
  have n1 := hT.n1
  have n9 := hT.n9
  obtain ⟨A1, cm, rfl, hcm, hr1⟩ := h1
  obtain ⟨A2, ck, rfl, hck, hr2⟩ := h2
  obtain ⟨bm, om, rfl, cm0⟩ := hr1.int n1
  obtain ⟨bk, ok, rfl, ck0⟩ := hr2.int n1
  have AR := hd (fun w' (h : Below w.heap.size w w') => l03Are_any b 0 c ts n w' (hT.below h))
  have HM := hd (fun i (hi : i < n) => (show (∀ w', Below w.heap.size w w' → w'.cell? ⟨bm, om + i, none⟩ = some (.int .i64 (most.getD i 0))) ∧ 0 ≤ most.getD i 0 ∧ most.getD i 0 ≤ 3 from ⟨fun w' h => below_at h (by obtain ⟨b', o', e, h⟩ := hr1.int hi; cases e; exact h), hm i hi⟩))
  have HC := hd (fun i (hi : i < n) => (show (∀ w', Below w.heap.size w w' → w'.cell? ⟨bk, ok + i, none⟩ = some (.int .i64 (costs.getD i 0))) ∧ 0 ≤ costs.getD i 0 ∧ costs.getD i 0 ≤ 1000 from ⟨fun w' h => below_at h (by obtain ⟨b', o', e, h⟩ := hr2.int hi; cases e; exact h), hc i hi⟩))
  have HT0 := hd (fun i (hi : i < n) => (show ∀ w', Below w.heap.size w w' → w'.cell? ⟨b, i * 4, none⟩ = some (.int .i64 (tkAt ts i).a) from fun w' h => below_at h (by obtain ⟨Ab, cb, Al, cl, c0, _⟩ := hT.cl i hi; rw [Nat.zero_add] at c0; exact c0)))
  have Q1 := hd (fun i (hi : i < n) (w' : World) => l00In_t (most.getD i 0) 0 3 w' (inR_iff.2 (hm i hi)))
  have Q2 := hd (fun i (hi : i < n) (w' : World) => l00In_t (costs.getD i 0) 0 1000 w' (inR_iff.2 (hc i hi)))
  have WI := hd (fun w' => l00In_t goal 0 100000 w' (inR_iff.2 ⟨g0, g1⟩))
  have HTA := hd hT
  have OK := hd hT.ok
  have CBD := hd (fun t k hk => hCo_bd hT.ok hm hc t k hk)
  have CUT := hd (fun t => cut_ok hT.ok (fun i hi => (hm i hi).1) t)
  have hn5 : decide ((5 : Int) < (n : Int)) = false := decide_eq_false (by omega)
  have hne : ((n : Int) != (n : Int)) = false := by simp
  clear hT hm hc hr1 hr2 cm0 ck0 hcm hck g0 g1
  go_enter Try.func13, Try.ntmps13
  go_wp2_with (first | (go_at_call 17; refine (AR.out w (Below.refl _ _)).mono ?_; rintro e w1 ⟨rfl, hb⟩; have HB1 := hd hb; clear hb) | (go_at_call 24; refine (WI.out _).mono ?_; rintro e w' ⟨rfl, hw⟩; replace hw := hw.symm; subst hw))
  clear AR WI hn5 hne
  go_loopw [49] (fun iv wr => ∃ k : Nat, k ≤ n ∧ iv = .int .i64 k ∧ Hid (Below w.heap.size w wr)) (fun iv _ => n - (intOf iv).toNat)
  case atStart => exact ⟨0, by omega, rfl, HB1⟩
  case round =>
    clear HB1
    obtain ⟨k, hk, rfl, HB1⟩ := hrel
    by_cases hlt : k < n
    · have k2 : (k : Int) < (n : Int) := Int.ofNat_lt.2 hlt
      have c1 := (HM.out k hlt).1 wr HB1.out
      have c2 := (HC.out k hlt).1 wr HB1.out
      have q1 := hd (Q1.out k hlt)
      have q2 := hd (Q2.out k hlt)
      generalize most.getD k 0 = mk at *
      generalize costs.getD k 0 = ck' at *
      go_wp2_with (first | (go_at_call_has 24 mk; refine (q1.out _).mono ?_; rintro e w' ⟨rfl, hw⟩; replace hw := hw.symm; subst hw) | (go_at_call 24; refine (q2.out _).mono ?_; rintro e w' ⟨rfl, hw⟩; replace hw := hw.symm; subst hw))
      go_roundw
      case rel => exact ⟨k + 1, by omega, by go_num, HB1⟩
      case measure => simp [intOf]; omega
    · obtain rfl : n = k := by omega
      clear Q1 Q2
      go_wp2_with (first | (at_make; go_must (refine wpList_make_int _ rfl _ rfl _ _ n rfl rfl (by omega) ?_); intro w3 ho3 hb3))
      obtain ⟨P, hP⟩ : ∃ P, P = prodR (limR ts most n) := ⟨_, rfl⟩
      have HP := hd hP
      have hP0 : 0 < P := by rw [hP]; exact prodR_pos _
      have HIX := hd (show hIx ts most costs n goal = hB (hOk ts most n goal) (fun t => hCo ts most costs n t n) P by rw [hP]; rfl)
      clear hP
      obtain ⟨gC, hgC⟩ : ∃ gC, gC = wr.heap.size := ⟨_, rfl⟩
      have hl3 := (World.ownsRow.lt ho3 _ rfl).2
      have hwg := HB1.out.size
      rw [← hgC] at ho3 hl3 hwg ⊢
      have HGW := hd hwg
      have HO3 := hd (show (w3.alloc (.cells #[] 2)).ownsRow gC 2 1 (.slice (some ⟨gC, 0, none⟩) n n) n ((fnL n fun i => (cutN ts most n 0 i : Int)).map vi) by
        have e : (fnL n fun i => (cutN ts most n 0 i : Int)) = List.replicate n 0 := by
          rw [← fnL_zero]
          exact fnL_same fun i _ => by rw [cutN_zero]; rfl
        rw [e, List.map_replicate]
        have := own_below ho3 ((Below.refl w3.heap.size w3).alloc (Nat.le_refl _) (.cells #[] 2))
        simpa [vi] using this)
      have HB3 := hd (show Below w.heap.size w (w3.alloc (.cells #[] 2)) from (below_tr hb3 HB1.out).alloc (Nat.le_trans HB1.out.size hb3.size) _)
      have HZ3 := hd (show gC < (w3.alloc (.cells #[] 2)).heap.size from Nat.lt_of_lt_of_le hl3 (by simp))
      clear ho3 hb3 hl3 hgC hwg HB1
      obtain ⟨W3, hW3⟩ : ∃ W3, W3 = w3.alloc (.cells #[] 2) := ⟨_, rfl⟩
      rw [← hW3] at HO3 HB3 HZ3 ⊢
      clear hW3
      go_loopw [14, 15, 16] (fun bv lv mv wr => ∃ (t : Nat) (l : Int) (mb : Bool) (v : Nat → Int), lv = .int .i64 l ∧ mv = .bool mb ∧ Hid (if mb = true then t < P ∧ ∀ i, i < n → v i = (cutN ts most n t i : Int) else t = P) ∧ Hid (wr.ownsRow gC 2 1 (.slice (some ⟨gC, 0, none⟩) n n) n ((fnL n v).map vi)) ∧ Hid (SBest (gC + 1) wr ts most costs n (hB (hOk ts most n goal) (fun t => hCo ts most costs n t n) t) bv l) ∧ Hid (Below w.heap.size w wr) ∧ Hid (gC < wr.heap.size)) (fun _ _ mv wr => if isT mv = true then P - numH (limR ts most n) gC n wr else 0)
      case atStart => exact ⟨0, -1, true, _, rfl, rfl, hd (by rw [if_pos rfl]; exact ⟨hP0, fun _ _ => rfl⟩), HO3, hd rfl, HB3, HZ3⟩
      case round =>
        clear HO3 HB3 HZ3 hP0
        obtain ⟨t, l, mb, v, rfl, rfl, HM0, HO, HSB, HB, HZ⟩ := hrel
        cases mb with
        | false =>
          obtain rfl : t = P := by have := HM0.out; simpa using this
          have hsb := HSB.out
          rw [← HIX.out] at hsb
          clear HSB
          cases hr : hIx ts most costs n goal with
          | none =>
            rw [hr] at hsb
            obtain rfl := hsb
            have HR := hd hr
            clear hr
            go_wp2
            go_ret3
            exact ⟨HB.out, by rw [HR.out]; exact rfl⟩
          | some tb =>
            rw [hr] at hsb
            obtain ⟨rfl, gb, cb, rfl, hob⟩ := hsb
            have HR := hd hr
            have HOB := hd (own_mono hob (show w.heap.size ≤ gC + 1 by have := HGW.out; omega))
            have hl0 : ¬ hCo ts most costs n tb n < 0 := by have := (CBD.out tb n (Nat.le_refl _)).1; omega
            clear hr hob
            go_wp2
            go_ret3
            exact ⟨HB.out, by rw [HR.out]; exact ⟨_, rfl, HOB.out⟩⟩
        | true =>
          obtain ⟨wT, hwT⟩ : ∃ wT, wT = wr := ⟨_, rfl⟩
          subst hwT
          have hm0 := HM0.out
          rw [if_pos rfl] at hm0
          obtain ⟨htP, hvt⟩ := hm0
          have HV := hd hvt
          have HOt := hd (show wT.ownsRow gC 2 1 (.slice (some ⟨gC, 0, none⟩) n n) n ((fnL n fun i => (cutN ts most n t i : Int)).map vi) by rw [← fnL_same hvt]; exact HO.out)
          have HNUM := hd (numH_cut (by rw [← HP.out]; exact htP) HOt.out)
          clear HM0 HO hvt
          have hshl : ∀ (X : World), Below w.heap.size w X → tkCells X b 0 n = shCells w b 0 n ts fun m => if m < 0 then (cutN ts most n t m : Int) else 0 := fun X hX => by
            rw [shCells_same w b 0 n ts (u := fun m => if m < 0 then (cutN ts most n t m : Int) else 0) (v := fun _ => 0) (fun i _ => by simp), ← shCells_zero HTA.out, tkCells, tkCells]
            refine List.map_congr_left fun j hj => ?_
            rw [List.mem_range] at hj
            have hl : j < (tkCells w b 0 n).length := by rw [tkCells_len]; exact hj
            have h1 := HTA.out.cells j _ (List.getElem?_eq_getElem hl)
            rw [h1.1, below_at hX h1.1]
          have HSHL := hd hshl
          clear hshl
          go_wp2_with (at_builtin; go_must (refine wpList_app_all_task _ rfl _ _ rfl wT.heap.size _ rfl (World.ownsRow_made (size := 4) wT #[] 0 (Nat.le_refl _) (by unfold maxLen; omega) rfl (e := 34)) b 0 n c _ rfl (HTA.out.below (HB.out.alloc HB.out.size _)) (by simp) ?_); intro v' w5 h1 h2)
          rw [HSHL.out _ (HB.out.alloc HB.out.size _)] at h1
          obtain ⟨gN, cN, rfl, hgN, _⟩ := own_form h1 n1
          have HN5 := hd h1
          have HB5 := hd (show Below wT.heap.size wT w5 from ((Below.refl wT.heap.size wT).alloc (Nat.le_refl _) _).grown h2 (by simp) (fun q e => by cases e; exact Nat.le_refl _))
          clear h1 h2 HSHL hgN
          have C0 := hd (show hCo ts most costs n t 0 = 0 from rfl)
          have CS := hd (fun k => (show hCo ts most costs n t (k + 1) = hCo ts most costs n t k + (cutN ts most n t k : Int) * costs.getD k 0 from rfl))
          have CBt := hd (fun k hk => CBD.out t k hk)
          obtain ⟨co, hco⟩ : ∃ co, co = hCo ts most costs n t := ⟨_, rfl⟩
          rw [← hco] at C0 CS CBt
          have HCO := hd hco
          clear hco
          go_wp2_with fail
          go_loopw [18, 76] (fun cv iv wr => ∃ i : Nat, i ≤ n ∧ iv = .int .i64 i ∧ cv = .int .i64 (co i) ∧ Hid (wr.ownsRow wT.heap.size 34 4 (.slice (some ⟨gN, 0, none⟩) n cN) n (shCells w b 0 n ts fun m => if m < i then (cutN ts most n t m : Int) else 0)) ∧ Hid (Below wT.heap.size wT wr)) (fun _ iv _ => n - (intOf iv).toNat)
          case atStart => exact ⟨0, by omega, rfl, by rw [C0.out], HN5, HB5⟩
          case round =>
            clear HN5 HB5
            obtain ⟨i, hi, rfl, rfl, HN, HBx⟩ := hrel
            by_cases hlt : i < n
            · have i2 : (i : Int) < (n : Int) := Int.ofNat_lt.2 hlt
              have hgN := (World.ownsRow.lt HN.out gN rfl)
              have HBw := hd (below_tr HBx.out HB.out)
              have cT := HN.out.cellAt (i * 4) (by omega)
              rw [shCells_at w b 0 ts _ (show i * 4 < n * 4 by omega), if_pos (by omega), show i * 4 / 4 = i by omega, if_neg (by omega), Int.sub_zero] at cT
              have cSr := HOt.out.cellAt i (by omega)
              rw [List.getElem?_map, fnL, List.getElem?_map, List.getElem?_range hlt] at cSr
              simp only [Option.map_some, vi] at cSr
              have cS := below_at HBx.out cSr
              have cu := CUT.out t i hlt
              have ci := HC.out i hlt
              have cb1 := CBt.out i (by omega)
              have cb2 := CBt.out (i + 1) (by omega)
              have cs := CS.out i
              have oi := OK.out i hlt
              have SETS := hd (show (shCells w b 0 n ts fun m => if m < i then (cutN ts most n t m : Int) else 0).set (i * 4) (.int .i64 ((tkAt ts i).a - (cutN ts most n t i : Int))) = shCells w b 0 n ts fun m => if m < i + 1 then (cutN ts most n t m : Int) else 0 by
                rw [shCells_set w b 0 ts _ hlt]
                refine shCells_same w b 0 n ts fun m _ => ?_
                by_cases h : m = i
                · subst h; rw [if_pos rfl, if_pos (by omega)]
                · rw [if_neg h]
                  by_cases h2 : m < i
                  · rw [if_pos h2, if_pos (by omega)]
                  · rw [if_neg h2, if_neg (by omega)])
              have CIx := hd ci.1
              have h3 := ci.2.1
              have h4 := ci.2.2
              have ta0 := oi.a0
              have ta1 := oi.a1
              have c3 : (cutN ts most n t i : Int) ≤ 3 := Int.le_trans cu.2.2 (HM.out i hlt).2.2
              generalize (tkAt ts i).a = ta at *
              generalize (cutN ts most n t i : Int) = cc at *
              generalize costs.getD i 0 = cst at *
              have hm0 : 0 ≤ cc * cst := Int.mul_nonneg cu.1 h3
              have hm1 : cc * cst ≤ 3 * 1000 := Int.mul_le_mul c3 (by omega) h3 (by omega)
              have hwa : IntKind.i64.wrap (ta - cc) = ta - cc := IntWalk.i64_in _ (by omega)
              have hwb := hd (show IntKind.i64.wrap (cc * cst) = cc * cst from IntWalk.i64_in _ (by omega))
              have hwc := hd (show IntKind.i64.wrap (co i + cc * cst) = co (i + 1) by rw [← cs]; exact IntWalk.i64_in _ (by omega))
              clear cSr cu ci cb1 cb2 cs oi h3 h4 ta0 ta1 c3 hm0 hm1
              go_wp2_with fail
              go_still_tail 12, (by kernel_rfl)
              change wpList _ _ _ _ _ wr.drew
              have HN7 := hd (show wr.drew.ownsRow wT.heap.size 34 4 (.slice (some ⟨gN, 0, none⟩) n cN) n (shCells w b 0 n ts fun m => if m < i then (cutN ts most n t m : Int) else 0) from HN.out)
              go_wp2_with ((with_reducible refine wpList_store_own _ wT.heap.size 34 4 n cN gN _ HN7.out size_int (i * 4) (.int .i64 (ta - cc)) ?_ ?_ ?_ ?_ ?_); exact rfl; exact rfl; exact rfl; omega; intro w7 ho7 hg7)
              rw [SETS.out] at ho7
              have HN8 := hd ho7
              have HB8 := hd (show Below wT.heap.size wT w7 from HBx.out.drew.grown hg7 HBx.out.size (fun q e => by cases e; exact hgN.1))
              have cS8 := hg7.cell (show wr.drew.cell? ⟨gC, i, none⟩ = some (.int .i64 cc) from cS) (by have := HZ.out; simp; omega)
              have cK8 := CIx.out w7 (below_tr HB8.out HB.out)
              clear ho7 hg7 HN7 cT cS hwa HN HBx
              have hwb' := hwb.out
              have hwc' := hwc.out
              go_wp2_with fail
              go_quiet (fail)
              clear cS8 cK8 hwb' hwc'
              go_wp2_with fail
              go_roundw
              case rel => exact ⟨i + 1, by omega, by go_num, rfl, hd HN8.out, hd (below_drewN HB8.out _)⟩
              case measure => simp [intOf]; omega
            · obtain rfl : n = i := by omega
              have HNT := HN.out
              rw [shCells_same w b 0 n ts (u := fun m => if m < n then (cutN ts most n t m : Int) else 0) (v := fun m => (cutN ts most n t m : Int)) (fun m hm => by rw [if_pos hm])] at HNT
              have hcN : n ≤ cN := (own_sl HNT (by unfold maxLen; omega)).elim fun A h => h.elim fun c h => by cases h.1; exact h.2.1
              have hts := ta_short HTA.out (below_tr HBx.out HB.out) (fun m hm => by have := CUT.out t m hm; exact ⟨this.1, this.2.1⟩) HNT hcN
              have hokd : hOk ts most n goal t = decide (lastF (shortT ts n fun i => (cutN ts most n t i : Int)) (eS (shortT ts n fun i => (cutN ts most n t i : Int)) n) n ≤ goal) := rfl
              obtain ⟨S, hSd⟩ : ∃ S, S = shortT ts n fun i => (cutN ts most n t i : Int) := ⟨_, rfl⟩
              rw [← hSd] at hts hokd
              have HE := hd (fun w' hb' => l03Early_any gN 0 cN S n w' (hts.below hb'))
              have HL := hd (fun w' hb' A hs => l03End_any gN 0 cN S n w' (hts.below hb') A (earlyL S n n) hs)
              have EB := hd (fun j => early_bd hts.ok n (Nat.le_refl _) j)
              have heS : lastF S (fun j => (earlyL S n n).getD j 0) n = lastF S (eS S n) n := rfl
              rw [heS] at HL
              obtain ⟨le, hle⟩ : ∃ le, le = lastF S (eS S n) n := ⟨_, rfl⟩
              rw [← hle] at HL hokd
              have HOK := hd hokd
              have HCn := hd (show co n = hCo ts most costs n t n by rw [HCO.out])
              clear HNT hts hokd hSd heS hle CS C0
              obtain ⟨cn, hcn⟩ : ∃ cn, cn = co n := ⟨_, rfl⟩
              rw [← hcn] at HCn ⊢
              have hc0 := (CBt.out n (Nat.le_refl _)).1
              rw [← hcn] at hc0
              clear hcn CBt HCO
              have RDC := hd (fun (w' : World) (h : Below wr.heap.size wr w') => ((own_sl (own_below HOt.out (below_tr h HBx.out)) (by unfold maxLen; omega)).elim fun A h => h.elim fun c h => by cases h.1; exact h.2.2 : Rd w' 1 (some ⟨gC, 0, none⟩) n ((fnL n fun i => (cutN ts most n t i : Int)).map vi)))
              have ARM := hd (fun (w3 : World) (h : Below wr.heap.size wr w3) => (below_tr h HBx.out : Below wT.heap.size wT w3))
              by_cases hle : le ≤ goal
              · have HT1 := hd (show hOk ts most n goal t = true by rw [HOK.out]; exact decide_eq_true hle)
                clear HOK
                cases hr : hB (hOk ts most n goal) (fun t => hCo ts most costs n t n) t with
                | none =>
                  have HR := hd (hB_hit0 hr HT1.out)
                  have hsb := HSB.out
                  rw [hr] at hsb
                  obtain rfl := hsb
                  clear hr HSB
                  go_wp2_with (first
                    | (go_at_call 18; refine (HE.out _ (Below.refl _ _)).mono ?_; rintro e' w2 ⟨rfl, ho2, hb2⟩; have HB2 := hd hb2; have HS2 := hd (starts_own ho2 n9 (fun k hk => by have := EB.out k; omega)); clear ho2 hb2)
                    | (go_at_call 19; refine (HL.out _ HB2.out _ HS2.out).mono ?_; rintro e' w8 ⟨rfl, hb8⟩; have HT9 := hd (below_tr hb8 HB2.out); clear hb8 HB2 HS2)
                    | (at_builtin; go_must (refine wpList_app_all_int _ rfl _ _ rfl w8.heap.size 0 _ _ rfl (World.ownsRow_made (size := 1) w8 #[] 0 (Nat.le_refl _) (by unfold maxLen; omega) rfl (e := 2)) (some ⟨gC, 0, none⟩) n n (fnL n fun i => (cutN ts most n t i : Int)) rfl (RDC.out _ (HT9.out.alloc HT9.out.size _)) n1 (by omega) (by simp) ?_); intro v9 w9 h1 h2 h3 h4))
                  rw [List.nil_append, Nat.zero_add] at h1
                  obtain ⟨g9, c9, rfl, _, _⟩ := own_form h1 n1
                  have hb9 : Below w8.heap.size w8 w9 := ((Below.refl w8.heap.size w8).alloc (Nat.le_refl _) _).grown h2 (by simp) (fun q e => by cases e; exact Nat.le_refl _)
                  have HB9 := hd (below_tr hb9 (ARM.out _ HT9.out))
                  have HSB9 := hd (show SBest (gC + 1) w9 ts most costs n (hB (hOk ts most n goal) (fun t => hCo ts most costs n t n) (t + 1)) (.slice (some ⟨g9, 0, none⟩) n c9) cn by rw [HR.out]; exact ⟨HCn.out, g9, c9, rfl, own_mono h1 (by have := (ARM.out _ HT9.out).size; have := HZ.out; omega)⟩)
                  clear h1 h2 h3 h4 hb9
                  have HOt9 := hd (own_below HOt.out HB9.out)
                  have HBw9 := hd (below_tr HB9.out HB.out)
                  have HZ9 := hd (Nat.lt_of_lt_of_le HZ.out HB9.out.size)
                  clear HN HBx HT9 HL HE
                  go_wp2_with fail
                  go_loopw [16, 20] (fun mv iv wr => ∃ (k : Nat) (mb : Bool) (v : Nat → Int), k ≤ n ∧ mv = .bool mb ∧ iv = .int .i64 ((n : Int) - 1 - k) ∧ Hid (if mb = true then t + 1 < P ∧ ∀ i, i < n → v i = (cutN ts most n (t + 1) i : Int) else (∀ j, j < k → limN ts most (n - 1 - j) < cutN ts most n t (n - 1 - j) + 1) ∧ ∀ i, i < n → v i = if n ≤ i + k then 0 else (cutN ts most n t i : Int)) ∧ Hid (wr.ownsRow gC 2 1 (.slice (some ⟨gC, 0, none⟩) n n) n ((fnL n v).map vi)) ∧ Hid (SBest (gC + 1) wr ts most costs n (hB (hOk ts most n goal) (fun t => hCo ts most costs n t n) (t + 1)) (.slice (some ⟨g9, 0, none⟩) n c9) cn) ∧ Hid (Below w.heap.size w wr) ∧ Hid (gC < wr.heap.size)) (fun _ iv _ => (intOf iv + 1).toNat)
                  case atStart => exact ⟨0, false, fun i => (cutN ts most n t i : Int), by omega, rfl, by first | rfl | simp, hd (by rw [if_neg (by simp)]; exact ⟨fun j hj => by omega, fun i hi => by rw [if_neg (by omega)]⟩), HOt9, HSB9, HBw9, HZ9⟩
                  case round =>
                    clear HOt9 HSB9 HBw9 HZ9
                    obtain ⟨k, mb, v, hkn, rfl, rfl, HMB, HO, HSB, HBw, HZ⟩ := hrel
                    cases mb with
                    | true =>
                      have hb2 := HMB.out
                      rw [if_pos rfl] at hb2
                      obtain ⟨htP2, hv2⟩ := hb2
                      have HV2 := hd hv2
                      have NM2 := hd (numH_cut (by rw [← HP.out]; exact htP2) (show wr.ownsRow gC 2 1 (.slice (some ⟨gC, 0, none⟩) n n) n ((fnL n fun i => (cutN ts most n (t + 1) i : Int)).map vi) by rw [← fnL_same hv2]; exact HO.out))
                      clear HMB hv2
                      by_cases hk4 : k < n
                      focus
                        have hi0 : (n : Int) - 1 - (k : Int) ≥ 0 := by omega
                        go_wp2
                      rotate_left
                      focus
                        have hi0 : ¬ (n : Int) - 1 - (k : Int) ≥ 0 := by omega
                        go_wp2
                      all_goals
                        go_roundw
                        case rel => exact ⟨t + 1, _, true, v, rfl, rfl, hd (by rw [if_pos rfl]; exact ⟨htP2, HV2.out⟩), HO, HSB, HBw, HZ⟩
                        case measure => have n1' := NM2.out; have n2' := HNUM.out; simp [isT, n1', n2']; omega
                    | false =>
                      have hb2 := HMB.out
                      rw [if_neg (by simp)] at hb2
                      obtain ⟨hlim, hv2⟩ := hb2
                      clear HMB
                      by_cases hk4 : k < n
                      · obtain ⟨i, hi⟩ : ∃ i : Nat, i = n - 1 - k := ⟨_, rfl⟩
                        rw [show ((n : Int) - 1 - (k : Int)) = (i : Int) by omega]
                        have hin : i < n := by omega
                        have hvi := hv2 i hin
                        rw [if_neg (by omega)] at hvi
                        have cR := HO.out.cellAt i (by omega)
                        rw [List.getElem?_map, fnL, List.getElem?_map, List.getElem?_range hin] at cR
                        simp only [Option.map_some, vi] at cR
                        rw [hvi] at cR
                        have NX := hd (fun h => cut_next (ts := ts) (most := most) (n := n) (t := t) (k := k) (by rw [← HP.out]; exact htP) hk4 hlim h)
                        have HLIM := hd hlim
                        have HV2 := hd hv2
                        have HI := hd hi
                        rw [← hi] at NX
                        have m1 := (HM.out i hin).2
                        have hLi : (limN ts most i : Int) = min (most.getD i 0) (tkAt ts i).a := by rw [limN]; have := (OK.out i hin).a0; omega
                        have cM6 := hd (HM.out i hin).1
                        have cT6 := hd (HT0.out i hin)
                        have a1 := (OK.out i hin).a1
                        have cu := CUT.out t i hin
                        clear hi hlim hv2 hvi
                        obtain ⟨cc, hcc⟩ : ∃ cc, cc = cutN ts most n t i := ⟨_, rfl⟩
                        rw [← hcc] at cR cu NX
                        have HCC := hd hcc
                        clear hcc
                        obtain ⟨Lm, hLm⟩ : ∃ Lm, Lm = limN ts most i := ⟨_, rfl⟩
                        rw [← hLm] at hLi NX
                        have HLm := hd hLm
                        clear hLm
                        generalize (tkAt ts i).a = ta at *
                        generalize most.getD i 0 = mi at *
                        rw [min_ifT] at hLi
                        have hw1 : IntKind.i64.wrap ((cc : Int) + 1) = (cc : Int) + 1 := IntWalk.i64_in _ (by omega)
                        have hwi := hd (show IntKind.i64.wrap ((i : Int) - 1) = (i : Int) - 1 from IntWalk.i64_in _ (by omega))
                        have hii : (i : Int) < (n : Int) := Int.ofNat_lt.2 hin
                        have hi0 : (i : Int) ≥ 0 := by omega
                        have E6 := hd (show ((fnL n v).map vi).set i (.int .i64 ((cc : Int) + 1)) = (fnL n fun m => if m = i then (cc : Int) + 1 else v m).map vi by rw [← fnL_set v _ hin, List.map_set]; rfl)
                        have HLI := hd hLi
                        clear hLi cu m1 a1
                        go_wp2_with ((with_reducible refine wpList_store_own _ gC 2 1 n n gC _ HO.out size_int i (.int .i64 ((cc : Int) + 1)) ?_ ?_ ?_ ?_ ?_); exact rfl; exact rfl; exact rfl; omega; intro w6 ho6 hg6)
                        rw [E6.out] at ho6
                        have HO6 := hd ho6
                        have HBw6 := hd (HBw.out.grown hg6 (HBw.out.size) (fun q e => by cases e; exact HGW.out))
                        have HSB6 := hd (HSB.out.grown hg6 (by omega))
                        have HZ6 := hd (Nat.lt_of_lt_of_le HZ.out hg6.size)
                        have cR6 := ho6.cellAt i (by omega)
                        rw [List.getElem?_map, fnL, List.getElem?_map, List.getElem?_range hin] at cR6
                        simp only [Option.map_some, vi, if_true] at cR6
                        have cM7 := cM6.out w6 HBw6.out
                        have cT7 := cT6.out w6 HBw6.out
                        clear ho6 hg6 HO HBw HSB HZ cR cM6 cT6
                        by_cases hgrow : (cc : Int) + 1 ≤ (Lm : Int)
                        · have nx := NX.out (by omega)
                          have hgr : (cc : Int) + 1 ≤ if ta < mi then ta else mi := by rw [← HLI.out]; exact hgrow
                          have V1 := hd (show ∀ m, m < n → (if m = i then (cc : Int) + 1 else v m) = (cutN ts most n (t + 1) m : Int) from fun m hm => by
                            rw [nx.2 m hm]
                            have hI := HI.out
                            by_cases h : m = i
                            · subst h; rw [if_pos rfl, if_neg (by omega), if_pos rfl, ← HCC.out]; push_cast; rfl
                            · rw [if_neg h, HV2.out m hm]
                              by_cases h2 : n ≤ m + k
                              · rw [if_pos h2, if_pos (by omega)]; rfl
                              · rw [if_neg h2, if_neg (by omega), if_neg h])
                          have NP := hd (show t + 1 < P by rw [HP.out]; exact nx.1)
                          clear nx NX
                          go_wp2_with fail
                          go_quiet ((go_at_call 35; exact (minT_any _ _ _).mono fun _ _ h => by (obtain ⟨h1, h2⟩ := h; refine ⟨h1, ?_⟩; rw [h2]; first | exact ⟨_, rfl⟩ | (rw [World.drewN_drewN]; exact ⟨_, rfl⟩))))
                          have hwi' := hwi.out
                          clear cR6 cM7 cT7 hw1
                          go_wp2_with fail
                          go_roundw
                          case rel => exact ⟨k + 1, true, _, by omega, rfl, by have := HI.out; exact congrArg (Value.int IntKind.i64) (by push_cast; omega), hd (by rw [if_pos rfl]; exact ⟨NP.out, V1.out⟩), hd (HO6.out : (w6.drewN nq).ownsRow _ _ _ _ _ _), hd (HSB6.out.below (below_drewN (Below.refl _ _) nq)), hd (below_drewN HBw6.out nq), HZ6⟩
                          case measure => first | (simp [intOf]; done) | (simp [intOf]; omega)
                        · have hgr : ¬ (cc : Int) + 1 ≤ if ta < mi then ta else mi := by rw [← HLI.out]; exact hgrow
                          have hgrd : decide ((cc : Int) + 1 ≤ if ta < mi then ta else mi) = false := decide_eq_false hgr
                          clear NX
                          go_wp2_with fail
                          go_quiet ((go_at_call 35; exact (minT_any _ _ _).mono fun _ _ h => by (obtain ⟨h1, h2⟩ := h; refine ⟨h1, ?_⟩; rw [h2]; first | exact ⟨_, rfl⟩ | (rw [World.drewN_drewN]; exact ⟨_, rfl⟩))))
                          have HO7 := hd (show (w6.drewN nq).ownsRow gC 2 1 (.slice (some ⟨gC, 0, none⟩) n n) n ((fnL n fun m => if m = i then (cc : Int) + 1 else v m).map vi) from HO6.out)
                          have E7 := hd (show ((fnL n fun m => if m = i then (cc : Int) + 1 else v m).map vi).set i (.int .i64 0) = (fnL n fun m => if m = i then 0 else if m = i then (cc : Int) + 1 else v m).map vi by rw [← fnL_set (fun m => if m = i then (cc : Int) + 1 else v m) (0 : Int) hin, List.map_set (l := fnL n fun m => if m = i then (cc : Int) + 1 else v m)]; rfl)
                          have hwi' := hwi.out
                          clear cR6 cM7 cT7 hw1
                          go_wp2_with ((with_reducible refine wpList_store_own _ gC 2 1 n n gC _ HO7.out size_int i (.int .i64 0) ?_ ?_ ?_ ?_ ?_); exact rfl; exact rfl; exact rfl; omega; intro w8x ho8 hg8)
                          rw [E7.out] at ho8
                          go_roundw
                          case rel => exact ⟨k + 1, false, _, by omega, rfl, by have := HI.out; exact congrArg (Value.int IntKind.i64) (by push_cast; omega), hd (by
                              rw [if_neg (by simp)]
                              refine ⟨fun j hj => ?_, fun m hm => ?_⟩
                              · by_cases h : j = k
                                · subst h; rw [← HI.out, ← HCC.out, ← HLm.out]; omega
                                · exact HLIM.out j (by omega)
                              · have hI := HI.out
                                by_cases h : m = i
                                · subst h; rw [if_pos rfl, if_pos (by omega)]
                                · rw [if_neg h, if_neg h, HV2.out m hm]
                                  by_cases h2 : n ≤ m + k
                                  · rw [if_pos h2, if_pos (by omega)]
                                  · rw [if_neg h2, if_neg (by omega)]), hd ho8, hd ((HSB6.out.below (below_drewN (Below.refl _ _) nq)).grown hg8 (by omega)), hd ((below_drewN HBw6.out nq).grown hg8 (HBw6.out.size) (fun q e => by cases e; exact HGW.out)), hd (Nat.lt_of_lt_of_le HZ6.out hg8.size)⟩
                          case measure => first | (simp [intOf]; done) | (simp [intOf]; omega)
                      · obtain rfl : n = k := by omega
                        have HLAST := hd (show t + 1 = P by rw [HP.out]; exact cut_last (by rw [← HP.out]; exact htP) hlim)
                        have hi0 : ¬ (n : Int) - 1 - (n : Int) ≥ 0 := by omega
                        clear hlim hv2
                        go_wp2
                        go_roundw
                        case rel => exact ⟨t + 1, _, false, v, rfl, rfl, hd (by rw [if_neg (by simp)]; exact HLAST.out), HO, HSB, HBw, HZ⟩
                        case measure => have n2' := HNUM.out; simp [isT, n2']; omega
                | some tb =>
                  have hsb := HSB.out
                  rw [hr] at hsb
                  obtain ⟨hl, gb, cb, hV, hob⟩ := hsb
                  have hl0 : ¬ l < 0 := by have := (CBD.out tb n (Nat.le_refl _)).1; omega
                  have HLL := hd hl
                  have HSO := hd (And.intro hV hob)
                  clear hV hob
                  by_cases hc : cn < l
                  · have HR := hd (hB_hit hr HT1.out (by show hCo ts most costs n t n < hCo ts most costs n tb n; rw [← HCn.out, ← HLL.out]; exact hc))
                    clear hr HSB hl
                    go_wp2_with (first
                      | (go_at_call 18; refine (HE.out _ (Below.refl _ _)).mono ?_; rintro e' w2 ⟨rfl, ho2, hb2⟩; have HB2 := hd hb2; have HS2 := hd (starts_own ho2 n9 (fun k hk => by have := EB.out k; omega)); clear ho2 hb2)
                      | (go_at_call 19; refine (HL.out _ HB2.out _ HS2.out).mono ?_; rintro e' w8 ⟨rfl, hb8⟩; have HT9 := hd (below_tr hb8 HB2.out); clear hb8 HB2 HS2)
                      | (at_builtin; go_must (refine wpList_app_all_int _ rfl _ _ rfl w8.heap.size 0 _ _ rfl (World.ownsRow_made (size := 1) w8 #[] 0 (Nat.le_refl _) (by unfold maxLen; omega) rfl (e := 2)) (some ⟨gC, 0, none⟩) n n (fnL n fun i => (cutN ts most n t i : Int)) rfl (RDC.out _ (HT9.out.alloc HT9.out.size _)) n1 (by omega) (by simp) ?_); intro v9 w9 h1 h2 h3 h4))
                    rw [List.nil_append, Nat.zero_add] at h1
                    obtain ⟨g9, c9, rfl, _, _⟩ := own_form h1 n1
                    have hb9 : Below w8.heap.size w8 w9 := ((Below.refl w8.heap.size w8).alloc (Nat.le_refl _) _).grown h2 (by simp) (fun q e => by cases e; exact Nat.le_refl _)
                    have HB9 := hd (below_tr hb9 (ARM.out _ HT9.out))
                    have HSB9 := hd (show SBest (gC + 1) w9 ts most costs n (hB (hOk ts most n goal) (fun t => hCo ts most costs n t n) (t + 1)) (.slice (some ⟨g9, 0, none⟩) n c9) cn by rw [HR.out]; exact ⟨HCn.out, g9, c9, rfl, own_mono h1 (by have := (ARM.out _ HT9.out).size; have := HZ.out; omega)⟩)
                    clear h1 h2 h3 h4 hb9
                    have HOt9 := hd (own_below HOt.out HB9.out)
                    have HBw9 := hd (below_tr HB9.out HB.out)
                    have HZ9 := hd (Nat.lt_of_lt_of_le HZ.out HB9.out.size)
                    clear HN HBx HT9 HL HE
                    go_wp2_with fail
                    go_loopw [16, 20] (fun mv iv wr => ∃ (k : Nat) (mb : Bool) (v : Nat → Int), k ≤ n ∧ mv = .bool mb ∧ iv = .int .i64 ((n : Int) - 1 - k) ∧ Hid (if mb = true then t + 1 < P ∧ ∀ i, i < n → v i = (cutN ts most n (t + 1) i : Int) else (∀ j, j < k → limN ts most (n - 1 - j) < cutN ts most n t (n - 1 - j) + 1) ∧ ∀ i, i < n → v i = if n ≤ i + k then 0 else (cutN ts most n t i : Int)) ∧ Hid (wr.ownsRow gC 2 1 (.slice (some ⟨gC, 0, none⟩) n n) n ((fnL n v).map vi)) ∧ Hid (SBest (gC + 1) wr ts most costs n (hB (hOk ts most n goal) (fun t => hCo ts most costs n t n) (t + 1)) (.slice (some ⟨g9, 0, none⟩) n c9) cn) ∧ Hid (Below w.heap.size w wr) ∧ Hid (gC < wr.heap.size)) (fun _ iv _ => (intOf iv + 1).toNat)
                    case atStart => exact ⟨0, false, fun i => (cutN ts most n t i : Int), by omega, rfl, by first | rfl | simp, hd (by rw [if_neg (by simp)]; exact ⟨fun j hj => by omega, fun i hi => by rw [if_neg (by omega)]⟩), HOt9, HSB9, HBw9, HZ9⟩
                    case round =>
                      clear HOt9 HSB9 HBw9 HZ9
                      obtain ⟨k, mb, v, hkn, rfl, rfl, HMB, HO, HSB, HBw, HZ⟩ := hrel
                      cases mb with
                      | true =>
                        have hb2 := HMB.out
                        rw [if_pos rfl] at hb2
                        obtain ⟨htP2, hv2⟩ := hb2
                        have HV2 := hd hv2
                        have NM2 := hd (numH_cut (by rw [← HP.out]; exact htP2) (show wr.ownsRow gC 2 1 (.slice (some ⟨gC, 0, none⟩) n n) n ((fnL n fun i => (cutN ts most n (t + 1) i : Int)).map vi) by rw [← fnL_same hv2]; exact HO.out))
                        clear HMB hv2
                        by_cases hk4 : k < n
                        focus
                          have hi0 : (n : Int) - 1 - (k : Int) ≥ 0 := by omega
                          go_wp2
                        rotate_left
                        focus
                          have hi0 : ¬ (n : Int) - 1 - (k : Int) ≥ 0 := by omega
                          go_wp2
                        all_goals
                          go_roundw
                          case rel => exact ⟨t + 1, _, true, v, rfl, rfl, hd (by rw [if_pos rfl]; exact ⟨htP2, HV2.out⟩), HO, HSB, HBw, HZ⟩
                          case measure => have n1' := NM2.out; have n2' := HNUM.out; simp [isT, n1', n2']; omega
                      | false =>
                        have hb2 := HMB.out
                        rw [if_neg (by simp)] at hb2
                        obtain ⟨hlim, hv2⟩ := hb2
                        clear HMB
                        by_cases hk4 : k < n
                        · obtain ⟨i, hi⟩ : ∃ i : Nat, i = n - 1 - k := ⟨_, rfl⟩
                          rw [show ((n : Int) - 1 - (k : Int)) = (i : Int) by omega]
                          have hin : i < n := by omega
                          have hvi := hv2 i hin
                          rw [if_neg (by omega)] at hvi
                          have cR := HO.out.cellAt i (by omega)
                          rw [List.getElem?_map, fnL, List.getElem?_map, List.getElem?_range hin] at cR
                          simp only [Option.map_some, vi] at cR
                          rw [hvi] at cR
                          have NX := hd (fun h => cut_next (ts := ts) (most := most) (n := n) (t := t) (k := k) (by rw [← HP.out]; exact htP) hk4 hlim h)
                          have HLIM := hd hlim
                          have HV2 := hd hv2
                          have HI := hd hi
                          rw [← hi] at NX
                          have m1 := (HM.out i hin).2
                          have hLi : (limN ts most i : Int) = min (most.getD i 0) (tkAt ts i).a := by rw [limN]; have := (OK.out i hin).a0; omega
                          have cM6 := hd (HM.out i hin).1
                          have cT6 := hd (HT0.out i hin)
                          have a1 := (OK.out i hin).a1
                          have cu := CUT.out t i hin
                          clear hi hlim hv2 hvi
                          obtain ⟨cc, hcc⟩ : ∃ cc, cc = cutN ts most n t i := ⟨_, rfl⟩
                          rw [← hcc] at cR cu NX
                          have HCC := hd hcc
                          clear hcc
                          obtain ⟨Lm, hLm⟩ : ∃ Lm, Lm = limN ts most i := ⟨_, rfl⟩
                          rw [← hLm] at hLi NX
                          have HLm := hd hLm
                          clear hLm
                          generalize (tkAt ts i).a = ta at *
                          generalize most.getD i 0 = mi at *
                          rw [min_ifT] at hLi
                          have hw1 : IntKind.i64.wrap ((cc : Int) + 1) = (cc : Int) + 1 := IntWalk.i64_in _ (by omega)
                          have hwi := hd (show IntKind.i64.wrap ((i : Int) - 1) = (i : Int) - 1 from IntWalk.i64_in _ (by omega))
                          have hii : (i : Int) < (n : Int) := Int.ofNat_lt.2 hin
                          have hi0 : (i : Int) ≥ 0 := by omega
                          have E6 := hd (show ((fnL n v).map vi).set i (.int .i64 ((cc : Int) + 1)) = (fnL n fun m => if m = i then (cc : Int) + 1 else v m).map vi by rw [← fnL_set v _ hin, List.map_set]; rfl)
                          have HLI := hd hLi
                          clear hLi cu m1 a1
                          go_wp2_with ((with_reducible refine wpList_store_own _ gC 2 1 n n gC _ HO.out size_int i (.int .i64 ((cc : Int) + 1)) ?_ ?_ ?_ ?_ ?_); exact rfl; exact rfl; exact rfl; omega; intro w6 ho6 hg6)
                          rw [E6.out] at ho6
                          have HO6 := hd ho6
                          have HBw6 := hd (HBw.out.grown hg6 (HBw.out.size) (fun q e => by cases e; exact HGW.out))
                          have HSB6 := hd (HSB.out.grown hg6 (by omega))
                          have HZ6 := hd (Nat.lt_of_lt_of_le HZ.out hg6.size)
                          have cR6 := ho6.cellAt i (by omega)
                          rw [List.getElem?_map, fnL, List.getElem?_map, List.getElem?_range hin] at cR6
                          simp only [Option.map_some, vi, if_true] at cR6
                          have cM7 := cM6.out w6 HBw6.out
                          have cT7 := cT6.out w6 HBw6.out
                          clear ho6 hg6 HO HBw HSB HZ cR cM6 cT6
                          by_cases hgrow : (cc : Int) + 1 ≤ (Lm : Int)
                          · have nx := NX.out (by omega)
                            have hgr : (cc : Int) + 1 ≤ if ta < mi then ta else mi := by rw [← HLI.out]; exact hgrow
                            have V1 := hd (show ∀ m, m < n → (if m = i then (cc : Int) + 1 else v m) = (cutN ts most n (t + 1) m : Int) from fun m hm => by
                              rw [nx.2 m hm]
                              have hI := HI.out
                              by_cases h : m = i
                              · subst h; rw [if_pos rfl, if_neg (by omega), if_pos rfl, ← HCC.out]; push_cast; rfl
                              · rw [if_neg h, HV2.out m hm]
                                by_cases h2 : n ≤ m + k
                                · rw [if_pos h2, if_pos (by omega)]; rfl
                                · rw [if_neg h2, if_neg (by omega), if_neg h])
                            have NP := hd (show t + 1 < P by rw [HP.out]; exact nx.1)
                            clear nx NX
                            go_wp2_with fail
                            go_quiet ((go_at_call 35; exact (minT_any _ _ _).mono fun _ _ h => by (obtain ⟨h1, h2⟩ := h; refine ⟨h1, ?_⟩; rw [h2]; first | exact ⟨_, rfl⟩ | (rw [World.drewN_drewN]; exact ⟨_, rfl⟩))))
                            have hwi' := hwi.out
                            clear cR6 cM7 cT7 hw1
                            go_wp2_with fail
                            go_roundw
                            case rel => exact ⟨k + 1, true, _, by omega, rfl, by have := HI.out; exact congrArg (Value.int IntKind.i64) (by push_cast; omega), hd (by rw [if_pos rfl]; exact ⟨NP.out, V1.out⟩), hd (HO6.out : (w6.drewN nq).ownsRow _ _ _ _ _ _), hd (HSB6.out.below (below_drewN (Below.refl _ _) nq)), hd (below_drewN HBw6.out nq), HZ6⟩
                            case measure => first | (simp [intOf]; done) | (simp [intOf]; omega)
                          · have hgr : ¬ (cc : Int) + 1 ≤ if ta < mi then ta else mi := by rw [← HLI.out]; exact hgrow
                            have hgrd : decide ((cc : Int) + 1 ≤ if ta < mi then ta else mi) = false := decide_eq_false hgr
                            clear NX
                            go_wp2_with fail
                            go_quiet ((go_at_call 35; exact (minT_any _ _ _).mono fun _ _ h => by (obtain ⟨h1, h2⟩ := h; refine ⟨h1, ?_⟩; rw [h2]; first | exact ⟨_, rfl⟩ | (rw [World.drewN_drewN]; exact ⟨_, rfl⟩))))
                            have HO7 := hd (show (w6.drewN nq).ownsRow gC 2 1 (.slice (some ⟨gC, 0, none⟩) n n) n ((fnL n fun m => if m = i then (cc : Int) + 1 else v m).map vi) from HO6.out)
                            have E7 := hd (show ((fnL n fun m => if m = i then (cc : Int) + 1 else v m).map vi).set i (.int .i64 0) = (fnL n fun m => if m = i then 0 else if m = i then (cc : Int) + 1 else v m).map vi by rw [← fnL_set (fun m => if m = i then (cc : Int) + 1 else v m) (0 : Int) hin, List.map_set (l := fnL n fun m => if m = i then (cc : Int) + 1 else v m)]; rfl)
                            have hwi' := hwi.out
                            clear cR6 cM7 cT7 hw1
                            go_wp2_with ((with_reducible refine wpList_store_own _ gC 2 1 n n gC _ HO7.out size_int i (.int .i64 0) ?_ ?_ ?_ ?_ ?_); exact rfl; exact rfl; exact rfl; omega; intro w8x ho8 hg8)
                            rw [E7.out] at ho8
                            go_roundw
                            case rel => exact ⟨k + 1, false, _, by omega, rfl, by have := HI.out; exact congrArg (Value.int IntKind.i64) (by push_cast; omega), hd (by
                                rw [if_neg (by simp)]
                                refine ⟨fun j hj => ?_, fun m hm => ?_⟩
                                · by_cases h : j = k
                                  · subst h; rw [← HI.out, ← HCC.out, ← HLm.out]; omega
                                  · exact HLIM.out j (by omega)
                                · have hI := HI.out
                                  by_cases h : m = i
                                  · subst h; rw [if_pos rfl, if_pos (by omega)]
                                  · rw [if_neg h, if_neg h, HV2.out m hm]
                                    by_cases h2 : n ≤ m + k
                                    · rw [if_pos h2, if_pos (by omega)]
                                    · rw [if_neg h2, if_neg (by omega)]), hd ho8, hd ((HSB6.out.below (below_drewN (Below.refl _ _) nq)).grown hg8 (by omega)), hd ((below_drewN HBw6.out nq).grown hg8 (HBw6.out.size) (fun q e => by cases e; exact HGW.out)), hd (Nat.lt_of_lt_of_le HZ6.out hg8.size)⟩
                            case measure => first | (simp [intOf]; done) | (simp [intOf]; omega)
                        · obtain rfl : n = k := by omega
                          have HLAST := hd (show t + 1 = P by rw [HP.out]; exact cut_last (by rw [← HP.out]; exact htP) hlim)
                          have hi0 : ¬ (n : Int) - 1 - (n : Int) ≥ 0 := by omega
                          clear hlim hv2
                          go_wp2
                          go_roundw
                          case rel => exact ⟨t + 1, _, false, v, rfl, rfl, hd (by rw [if_neg (by simp)]; exact HLAST.out), HO, HSB, HBw, HZ⟩
                          case measure => have n2' := HNUM.out; simp [isT, n2']; omega
                  · have HR := hd (hB_dear hr (by show ¬ hCo ts most costs n t n < hCo ts most costs n tb n; rw [← HCn.out, ← HLL.out]; exact hc))
                    clear hl
                    have HRR := hd hr
                    clear hr
                    go_wp2_with (first
                      | (go_at_call 18; refine (HE.out _ (Below.refl _ _)).mono ?_; rintro e' w2 ⟨rfl, ho2, hb2⟩; have HB2 := hd hb2; have HS2 := hd (starts_own ho2 n9 (fun k hk => by have := EB.out k; omega)); clear ho2 hb2)
                      | (go_at_call 19; refine (HL.out _ HB2.out _ HS2.out).mono ?_; rintro e' w8 ⟨rfl, hb8⟩; have HT9 := hd (below_tr hb8 HB2.out); clear hb8 HB2 HS2))
                    have HB9 := hd (ARM.out _ HT9.out)
                    have HSB9 := hd (show SBest (gC + 1) _ ts most costs n (hB (hOk ts most n goal) (fun t => hCo ts most costs n t n) (t + 1)) u14 l by rw [HR.out, ← HRR.out]; exact HSB.out.below HB9.out)
                    have HOt9 := hd (own_below HOt.out HB9.out)
                    have HBw9 := hd (below_tr HB9.out HB.out)
                    have HZ9 := hd (Nat.lt_of_lt_of_le HZ.out HB9.out.size)
                    clear HN HBx HT9 HL HE
                    go_wp2_with fail
                    go_loopw [16, 20] (fun mv iv wr => ∃ (k : Nat) (mb : Bool) (v : Nat → Int), k ≤ n ∧ mv = .bool mb ∧ iv = .int .i64 ((n : Int) - 1 - k) ∧ Hid (if mb = true then t + 1 < P ∧ ∀ i, i < n → v i = (cutN ts most n (t + 1) i : Int) else (∀ j, j < k → limN ts most (n - 1 - j) < cutN ts most n t (n - 1 - j) + 1) ∧ ∀ i, i < n → v i = if n ≤ i + k then 0 else (cutN ts most n t i : Int)) ∧ Hid (wr.ownsRow gC 2 1 (.slice (some ⟨gC, 0, none⟩) n n) n ((fnL n v).map vi)) ∧ Hid (SBest (gC + 1) wr ts most costs n (hB (hOk ts most n goal) (fun t => hCo ts most costs n t n) (t + 1)) u14 l) ∧ Hid (Below w.heap.size w wr) ∧ Hid (gC < wr.heap.size)) (fun _ iv _ => (intOf iv + 1).toNat)
                    case atStart => exact ⟨0, false, fun i => (cutN ts most n t i : Int), by omega, rfl, by first | rfl | simp, hd (by rw [if_neg (by simp)]; exact ⟨fun j hj => by omega, fun i hi => by rw [if_neg (by omega)]⟩), HOt9, HSB9, HBw9, HZ9⟩
                    case round =>
                      clear HOt9 HSB9 HBw9 HZ9
                      obtain ⟨k, mb, v, hkn, rfl, rfl, HMB, HO, HSB, HBw, HZ⟩ := hrel
                      cases mb with
                      | true =>
                        have hb2 := HMB.out
                        rw [if_pos rfl] at hb2
                        obtain ⟨htP2, hv2⟩ := hb2
                        have HV2 := hd hv2
                        have NM2 := hd (numH_cut (by rw [← HP.out]; exact htP2) (show wr.ownsRow gC 2 1 (.slice (some ⟨gC, 0, none⟩) n n) n ((fnL n fun i => (cutN ts most n (t + 1) i : Int)).map vi) by rw [← fnL_same hv2]; exact HO.out))
                        clear HMB hv2
                        by_cases hk4 : k < n
                        focus
                          have hi0 : (n : Int) - 1 - (k : Int) ≥ 0 := by omega
                          go_wp2
                        rotate_left
                        focus
                          have hi0 : ¬ (n : Int) - 1 - (k : Int) ≥ 0 := by omega
                          go_wp2
                        all_goals
                          go_roundw
                          case rel => exact ⟨t + 1, _, true, v, rfl, rfl, hd (by rw [if_pos rfl]; exact ⟨htP2, HV2.out⟩), HO, HSB, HBw, HZ⟩
                          case measure => have n1' := NM2.out; have n2' := HNUM.out; simp [isT, n1', n2']; omega
                      | false =>
                        have hb2 := HMB.out
                        rw [if_neg (by simp)] at hb2
                        obtain ⟨hlim, hv2⟩ := hb2
                        clear HMB
                        by_cases hk4 : k < n
                        · obtain ⟨i, hi⟩ : ∃ i : Nat, i = n - 1 - k := ⟨_, rfl⟩
                          rw [show ((n : Int) - 1 - (k : Int)) = (i : Int) by omega]
                          have hin : i < n := by omega
                          have hvi := hv2 i hin
                          rw [if_neg (by omega)] at hvi
                          have cR := HO.out.cellAt i (by omega)
                          rw [List.getElem?_map, fnL, List.getElem?_map, List.getElem?_range hin] at cR
                          simp only [Option.map_some, vi] at cR
                          rw [hvi] at cR
                          have NX := hd (fun h => cut_next (ts := ts) (most := most) (n := n) (t := t) (k := k) (by rw [← HP.out]; exact htP) hk4 hlim h)
                          have HLIM := hd hlim
                          have HV2 := hd hv2
                          have HI := hd hi
                          rw [← hi] at NX
                          have m1 := (HM.out i hin).2
                          have hLi : (limN ts most i : Int) = min (most.getD i 0) (tkAt ts i).a := by rw [limN]; have := (OK.out i hin).a0; omega
                          have cM6 := hd (HM.out i hin).1
                          have cT6 := hd (HT0.out i hin)
                          have a1 := (OK.out i hin).a1
                          have cu := CUT.out t i hin
                          clear hi hlim hv2 hvi
                          obtain ⟨cc, hcc⟩ : ∃ cc, cc = cutN ts most n t i := ⟨_, rfl⟩
                          rw [← hcc] at cR cu NX
                          have HCC := hd hcc
                          clear hcc
                          obtain ⟨Lm, hLm⟩ : ∃ Lm, Lm = limN ts most i := ⟨_, rfl⟩
                          rw [← hLm] at hLi NX
                          have HLm := hd hLm
                          clear hLm
                          generalize (tkAt ts i).a = ta at *
                          generalize most.getD i 0 = mi at *
                          rw [min_ifT] at hLi
                          have hw1 : IntKind.i64.wrap ((cc : Int) + 1) = (cc : Int) + 1 := IntWalk.i64_in _ (by omega)
                          have hwi := hd (show IntKind.i64.wrap ((i : Int) - 1) = (i : Int) - 1 from IntWalk.i64_in _ (by omega))
                          have hii : (i : Int) < (n : Int) := Int.ofNat_lt.2 hin
                          have hi0 : (i : Int) ≥ 0 := by omega
                          have E6 := hd (show ((fnL n v).map vi).set i (.int .i64 ((cc : Int) + 1)) = (fnL n fun m => if m = i then (cc : Int) + 1 else v m).map vi by rw [← fnL_set v _ hin, List.map_set]; rfl)
                          have HLI := hd hLi
                          clear hLi cu m1 a1
                          go_wp2_with ((with_reducible refine wpList_store_own _ gC 2 1 n n gC _ HO.out size_int i (.int .i64 ((cc : Int) + 1)) ?_ ?_ ?_ ?_ ?_); exact rfl; exact rfl; exact rfl; omega; intro w6 ho6 hg6)
                          rw [E6.out] at ho6
                          have HO6 := hd ho6
                          have HBw6 := hd (HBw.out.grown hg6 (HBw.out.size) (fun q e => by cases e; exact HGW.out))
                          have HSB6 := hd (HSB.out.grown hg6 (by omega))
                          have HZ6 := hd (Nat.lt_of_lt_of_le HZ.out hg6.size)
                          have cR6 := ho6.cellAt i (by omega)
                          rw [List.getElem?_map, fnL, List.getElem?_map, List.getElem?_range hin] at cR6
                          simp only [Option.map_some, vi, if_true] at cR6
                          have cM7 := cM6.out w6 HBw6.out
                          have cT7 := cT6.out w6 HBw6.out
                          clear ho6 hg6 HO HBw HSB HZ cR cM6 cT6
                          by_cases hgrow : (cc : Int) + 1 ≤ (Lm : Int)
                          · have nx := NX.out (by omega)
                            have hgr : (cc : Int) + 1 ≤ if ta < mi then ta else mi := by rw [← HLI.out]; exact hgrow
                            have V1 := hd (show ∀ m, m < n → (if m = i then (cc : Int) + 1 else v m) = (cutN ts most n (t + 1) m : Int) from fun m hm => by
                              rw [nx.2 m hm]
                              have hI := HI.out
                              by_cases h : m = i
                              · subst h; rw [if_pos rfl, if_neg (by omega), if_pos rfl, ← HCC.out]; push_cast; rfl
                              · rw [if_neg h, HV2.out m hm]
                                by_cases h2 : n ≤ m + k
                                · rw [if_pos h2, if_pos (by omega)]; rfl
                                · rw [if_neg h2, if_neg (by omega), if_neg h])
                            have NP := hd (show t + 1 < P by rw [HP.out]; exact nx.1)
                            clear nx NX
                            go_wp2_with fail
                            go_quiet ((go_at_call 35; exact (minT_any _ _ _).mono fun _ _ h => by (obtain ⟨h1, h2⟩ := h; refine ⟨h1, ?_⟩; rw [h2]; first | exact ⟨_, rfl⟩ | (rw [World.drewN_drewN]; exact ⟨_, rfl⟩))))
                            have hwi' := hwi.out
                            clear cR6 cM7 cT7 hw1
                            go_wp2_with fail
                            go_roundw
                            case rel => exact ⟨k + 1, true, _, by omega, rfl, by have := HI.out; exact congrArg (Value.int IntKind.i64) (by push_cast; omega), hd (by rw [if_pos rfl]; exact ⟨NP.out, V1.out⟩), hd (HO6.out : (w6.drewN nq).ownsRow _ _ _ _ _ _), hd (HSB6.out.below (below_drewN (Below.refl _ _) nq)), hd (below_drewN HBw6.out nq), HZ6⟩
                            case measure => first | (simp [intOf]; done) | (simp [intOf]; omega)
                          · have hgr : ¬ (cc : Int) + 1 ≤ if ta < mi then ta else mi := by rw [← HLI.out]; exact hgrow
                            have hgrd : decide ((cc : Int) + 1 ≤ if ta < mi then ta else mi) = false := decide_eq_false hgr
                            clear NX
                            go_wp2_with fail
                            go_quiet ((go_at_call 35; exact (minT_any _ _ _).mono fun _ _ h => by (obtain ⟨h1, h2⟩ := h; refine ⟨h1, ?_⟩; rw [h2]; first | exact ⟨_, rfl⟩ | (rw [World.drewN_drewN]; exact ⟨_, rfl⟩))))
                            have HO7 := hd (show (w6.drewN nq).ownsRow gC 2 1 (.slice (some ⟨gC, 0, none⟩) n n) n ((fnL n fun m => if m = i then (cc : Int) + 1 else v m).map vi) from HO6.out)
                            have E7 := hd (show ((fnL n fun m => if m = i then (cc : Int) + 1 else v m).map vi).set i (.int .i64 0) = (fnL n fun m => if m = i then 0 else if m = i then (cc : Int) + 1 else v m).map vi by rw [← fnL_set (fun m => if m = i then (cc : Int) + 1 else v m) (0 : Int) hin, List.map_set (l := fnL n fun m => if m = i then (cc : Int) + 1 else v m)]; rfl)
                            have hwi' := hwi.out
                            clear cR6 cM7 cT7 hw1
                            go_wp2_with ((with_reducible refine wpList_store_own _ gC 2 1 n n gC _ HO7.out size_int i (.int .i64 0) ?_ ?_ ?_ ?_ ?_); exact rfl; exact rfl; exact rfl; omega; intro w8x ho8 hg8)
                            rw [E7.out] at ho8
                            go_roundw
                            case rel => exact ⟨k + 1, false, _, by omega, rfl, by have := HI.out; exact congrArg (Value.int IntKind.i64) (by push_cast; omega), hd (by
                                rw [if_neg (by simp)]
                                refine ⟨fun j hj => ?_, fun m hm => ?_⟩
                                · by_cases h : j = k
                                  · subst h; rw [← HI.out, ← HCC.out, ← HLm.out]; omega
                                  · exact HLIM.out j (by omega)
                                · have hI := HI.out
                                  by_cases h : m = i
                                  · subst h; rw [if_pos rfl, if_pos (by omega)]
                                  · rw [if_neg h, if_neg h, HV2.out m hm]
                                    by_cases h2 : n ≤ m + k
                                    · rw [if_pos h2, if_pos (by omega)]
                                    · rw [if_neg h2, if_neg (by omega)]), hd ho8, hd ((HSB6.out.below (below_drewN (Below.refl _ _) nq)).grown hg8 (by omega)), hd ((below_drewN HBw6.out nq).grown hg8 (HBw6.out.size) (fun q e => by cases e; exact HGW.out)), hd (Nat.lt_of_lt_of_le HZ6.out hg8.size)⟩
                            case measure => first | (simp [intOf]; done) | (simp [intOf]; omega)
                        · obtain rfl : n = k := by omega
                          have HLAST := hd (show t + 1 = P by rw [HP.out]; exact cut_last (by rw [← HP.out]; exact htP) hlim)
                          have hi0 : ¬ (n : Int) - 1 - (n : Int) ≥ 0 := by omega
                          clear hlim hv2
                          go_wp2
                          go_roundw
                          case rel => exact ⟨t + 1, _, false, v, rfl, rfl, hd (by rw [if_neg (by simp)]; exact HLAST.out), HO, HSB, HBw, HZ⟩
                          case measure => have n2' := HNUM.out; simp [isT, n2']; omega
              · have HR := hd (hB_miss (co := fun t => hCo ts most costs n t n) (show hOk ts most n goal t = false by rw [HOK.out]; exact decide_eq_false hle))
                have hled : decide (le ≤ goal) = false := decide_eq_false hle
                clear HOK
                go_wp2_with (first
                  | (go_at_call 18; refine (HE.out _ (Below.refl _ _)).mono ?_; rintro e' w2 ⟨rfl, ho2, hb2⟩; have HB2 := hd hb2; have HS2 := hd (starts_own ho2 n9 (fun k hk => by have := EB.out k; omega)); clear ho2 hb2)
                  | (go_at_call 19; refine (HL.out _ HB2.out _ HS2.out).mono ?_; rintro e' w8 ⟨rfl, hb8⟩; have HT9 := hd (below_tr hb8 HB2.out); clear hb8 HB2 HS2))
                have HB9 := hd (ARM.out _ HT9.out)
                have HSB9 := hd (show SBest (gC + 1) _ ts most costs n (hB (hOk ts most n goal) (fun t => hCo ts most costs n t n) (t + 1)) u14 l by rw [HR.out]; exact HSB.out.below HB9.out)
                have HOt9 := hd (own_below HOt.out HB9.out)
                have HBw9 := hd (below_tr HB9.out HB.out)
                have HZ9 := hd (Nat.lt_of_lt_of_le HZ.out HB9.out.size)
                clear HN HBx HT9 HL HE
                go_wp2_with fail
                go_loopw [16, 20] (fun mv iv wr => ∃ (k : Nat) (mb : Bool) (v : Nat → Int), k ≤ n ∧ mv = .bool mb ∧ iv = .int .i64 ((n : Int) - 1 - k) ∧ Hid (if mb = true then t + 1 < P ∧ ∀ i, i < n → v i = (cutN ts most n (t + 1) i : Int) else (∀ j, j < k → limN ts most (n - 1 - j) < cutN ts most n t (n - 1 - j) + 1) ∧ ∀ i, i < n → v i = if n ≤ i + k then 0 else (cutN ts most n t i : Int)) ∧ Hid (wr.ownsRow gC 2 1 (.slice (some ⟨gC, 0, none⟩) n n) n ((fnL n v).map vi)) ∧ Hid (SBest (gC + 1) wr ts most costs n (hB (hOk ts most n goal) (fun t => hCo ts most costs n t n) (t + 1)) u14 l) ∧ Hid (Below w.heap.size w wr) ∧ Hid (gC < wr.heap.size)) (fun _ iv _ => (intOf iv + 1).toNat)
                case atStart => exact ⟨0, false, fun i => (cutN ts most n t i : Int), by omega, rfl, by first | rfl | simp, hd (by rw [if_neg (by simp)]; exact ⟨fun j hj => by omega, fun i hi => by rw [if_neg (by omega)]⟩), HOt9, HSB9, HBw9, HZ9⟩
                case round =>
                  clear HOt9 HSB9 HBw9 HZ9
                  obtain ⟨k, mb, v, hkn, rfl, rfl, HMB, HO, HSB, HBw, HZ⟩ := hrel
                  cases mb with
                  | true =>
                    have hb2 := HMB.out
                    rw [if_pos rfl] at hb2
                    obtain ⟨htP2, hv2⟩ := hb2
                    have HV2 := hd hv2
                    have NM2 := hd (numH_cut (by rw [← HP.out]; exact htP2) (show wr.ownsRow gC 2 1 (.slice (some ⟨gC, 0, none⟩) n n) n ((fnL n fun i => (cutN ts most n (t + 1) i : Int)).map vi) by rw [← fnL_same hv2]; exact HO.out))
                    clear HMB hv2
                    by_cases hk4 : k < n
                    focus
                      have hi0 : (n : Int) - 1 - (k : Int) ≥ 0 := by omega
                      go_wp2
                    rotate_left
                    focus
                      have hi0 : ¬ (n : Int) - 1 - (k : Int) ≥ 0 := by omega
                      go_wp2
                    all_goals
                      go_roundw
                      case rel => exact ⟨t + 1, _, true, v, rfl, rfl, hd (by rw [if_pos rfl]; exact ⟨htP2, HV2.out⟩), HO, HSB, HBw, HZ⟩
                      case measure => have n1' := NM2.out; have n2' := HNUM.out; simp [isT, n1', n2']; omega
                  | false =>
                    have hb2 := HMB.out
                    rw [if_neg (by simp)] at hb2
                    obtain ⟨hlim, hv2⟩ := hb2
                    clear HMB
                    by_cases hk4 : k < n
                    · obtain ⟨i, hi⟩ : ∃ i : Nat, i = n - 1 - k := ⟨_, rfl⟩
                      rw [show ((n : Int) - 1 - (k : Int)) = (i : Int) by omega]
                      have hin : i < n := by omega
                      have hvi := hv2 i hin
                      rw [if_neg (by omega)] at hvi
                      have cR := HO.out.cellAt i (by omega)
                      rw [List.getElem?_map, fnL, List.getElem?_map, List.getElem?_range hin] at cR
                      simp only [Option.map_some, vi] at cR
                      rw [hvi] at cR
                      have NX := hd (fun h => cut_next (ts := ts) (most := most) (n := n) (t := t) (k := k) (by rw [← HP.out]; exact htP) hk4 hlim h)
                      have HLIM := hd hlim
                      have HV2 := hd hv2
                      have HI := hd hi
                      rw [← hi] at NX
                      have m1 := (HM.out i hin).2
                      have hLi : (limN ts most i : Int) = min (most.getD i 0) (tkAt ts i).a := by rw [limN]; have := (OK.out i hin).a0; omega
                      have cM6 := hd (HM.out i hin).1
                      have cT6 := hd (HT0.out i hin)
                      have a1 := (OK.out i hin).a1
                      have cu := CUT.out t i hin
                      clear hi hlim hv2 hvi
                      obtain ⟨cc, hcc⟩ : ∃ cc, cc = cutN ts most n t i := ⟨_, rfl⟩
                      rw [← hcc] at cR cu NX
                      have HCC := hd hcc
                      clear hcc
                      obtain ⟨Lm, hLm⟩ : ∃ Lm, Lm = limN ts most i := ⟨_, rfl⟩
                      rw [← hLm] at hLi NX
                      have HLm := hd hLm
                      clear hLm
                      generalize (tkAt ts i).a = ta at *
                      generalize most.getD i 0 = mi at *
                      rw [min_ifT] at hLi
                      have hw1 : IntKind.i64.wrap ((cc : Int) + 1) = (cc : Int) + 1 := IntWalk.i64_in _ (by omega)
                      have hwi := hd (show IntKind.i64.wrap ((i : Int) - 1) = (i : Int) - 1 from IntWalk.i64_in _ (by omega))
                      have hii : (i : Int) < (n : Int) := Int.ofNat_lt.2 hin
                      have hi0 : (i : Int) ≥ 0 := by omega
                      have E6 := hd (show ((fnL n v).map vi).set i (.int .i64 ((cc : Int) + 1)) = (fnL n fun m => if m = i then (cc : Int) + 1 else v m).map vi by rw [← fnL_set v _ hin, List.map_set]; rfl)
                      have HLI := hd hLi
                      clear hLi cu m1 a1
                      go_wp2_with ((with_reducible refine wpList_store_own _ gC 2 1 n n gC _ HO.out size_int i (.int .i64 ((cc : Int) + 1)) ?_ ?_ ?_ ?_ ?_); exact rfl; exact rfl; exact rfl; omega; intro w6 ho6 hg6)
                      rw [E6.out] at ho6
                      have HO6 := hd ho6
                      have HBw6 := hd (HBw.out.grown hg6 (HBw.out.size) (fun q e => by cases e; exact HGW.out))
                      have HSB6 := hd (HSB.out.grown hg6 (by omega))
                      have HZ6 := hd (Nat.lt_of_lt_of_le HZ.out hg6.size)
                      have cR6 := ho6.cellAt i (by omega)
                      rw [List.getElem?_map, fnL, List.getElem?_map, List.getElem?_range hin] at cR6
                      simp only [Option.map_some, vi, if_true] at cR6
                      have cM7 := cM6.out w6 HBw6.out
                      have cT7 := cT6.out w6 HBw6.out
                      clear ho6 hg6 HO HBw HSB HZ cR cM6 cT6
                      by_cases hgrow : (cc : Int) + 1 ≤ (Lm : Int)
                      · have nx := NX.out (by omega)
                        have hgr : (cc : Int) + 1 ≤ if ta < mi then ta else mi := by rw [← HLI.out]; exact hgrow
                        have V1 := hd (show ∀ m, m < n → (if m = i then (cc : Int) + 1 else v m) = (cutN ts most n (t + 1) m : Int) from fun m hm => by
                          rw [nx.2 m hm]
                          have hI := HI.out
                          by_cases h : m = i
                          · subst h; rw [if_pos rfl, if_neg (by omega), if_pos rfl, ← HCC.out]; push_cast; rfl
                          · rw [if_neg h, HV2.out m hm]
                            by_cases h2 : n ≤ m + k
                            · rw [if_pos h2, if_pos (by omega)]; rfl
                            · rw [if_neg h2, if_neg (by omega), if_neg h])
                        have NP := hd (show t + 1 < P by rw [HP.out]; exact nx.1)
                        clear nx NX
                        go_wp2_with fail
                        go_quiet ((go_at_call 35; exact (minT_any _ _ _).mono fun _ _ h => by (obtain ⟨h1, h2⟩ := h; refine ⟨h1, ?_⟩; rw [h2]; first | exact ⟨_, rfl⟩ | (rw [World.drewN_drewN]; exact ⟨_, rfl⟩))))
                        have hwi' := hwi.out
                        clear cR6 cM7 cT7 hw1
                        go_wp2_with fail
                        go_roundw
                        case rel => exact ⟨k + 1, true, _, by omega, rfl, by have := HI.out; exact congrArg (Value.int IntKind.i64) (by push_cast; omega), hd (by rw [if_pos rfl]; exact ⟨NP.out, V1.out⟩), hd (HO6.out : (w6.drewN nq).ownsRow _ _ _ _ _ _), hd (HSB6.out.below (below_drewN (Below.refl _ _) nq)), hd (below_drewN HBw6.out nq), HZ6⟩
                        case measure => first | (simp [intOf]; done) | (simp [intOf]; omega)
                      · have hgr : ¬ (cc : Int) + 1 ≤ if ta < mi then ta else mi := by rw [← HLI.out]; exact hgrow
                        have hgrd : decide ((cc : Int) + 1 ≤ if ta < mi then ta else mi) = false := decide_eq_false hgr
                        clear NX
                        go_wp2_with fail
                        go_quiet ((go_at_call 35; exact (minT_any _ _ _).mono fun _ _ h => by (obtain ⟨h1, h2⟩ := h; refine ⟨h1, ?_⟩; rw [h2]; first | exact ⟨_, rfl⟩ | (rw [World.drewN_drewN]; exact ⟨_, rfl⟩))))
                        have HO7 := hd (show (w6.drewN nq).ownsRow gC 2 1 (.slice (some ⟨gC, 0, none⟩) n n) n ((fnL n fun m => if m = i then (cc : Int) + 1 else v m).map vi) from HO6.out)
                        have E7 := hd (show ((fnL n fun m => if m = i then (cc : Int) + 1 else v m).map vi).set i (.int .i64 0) = (fnL n fun m => if m = i then 0 else if m = i then (cc : Int) + 1 else v m).map vi by rw [← fnL_set (fun m => if m = i then (cc : Int) + 1 else v m) (0 : Int) hin, List.map_set (l := fnL n fun m => if m = i then (cc : Int) + 1 else v m)]; rfl)
                        have hwi' := hwi.out
                        clear cR6 cM7 cT7 hw1
                        go_wp2_with ((with_reducible refine wpList_store_own _ gC 2 1 n n gC _ HO7.out size_int i (.int .i64 0) ?_ ?_ ?_ ?_ ?_); exact rfl; exact rfl; exact rfl; omega; intro w8x ho8 hg8)
                        rw [E7.out] at ho8
                        go_roundw
                        case rel => exact ⟨k + 1, false, _, by omega, rfl, by have := HI.out; exact congrArg (Value.int IntKind.i64) (by push_cast; omega), hd (by
                            rw [if_neg (by simp)]
                            refine ⟨fun j hj => ?_, fun m hm => ?_⟩
                            · by_cases h : j = k
                              · subst h; rw [← HI.out, ← HCC.out, ← HLm.out]; omega
                              · exact HLIM.out j (by omega)
                            · have hI := HI.out
                              by_cases h : m = i
                              · subst h; rw [if_pos rfl, if_pos (by omega)]
                              · rw [if_neg h, if_neg h, HV2.out m hm]
                                by_cases h2 : n ≤ m + k
                                · rw [if_pos h2, if_pos (by omega)]
                                · rw [if_neg h2, if_neg (by omega)]), hd ho8, hd ((HSB6.out.below (below_drewN (Below.refl _ _) nq)).grown hg8 (by omega)), hd ((below_drewN HBw6.out nq).grown hg8 (HBw6.out.size) (fun q e => by cases e; exact HGW.out)), hd (Nat.lt_of_lt_of_le HZ6.out hg8.size)⟩
                        case measure => first | (simp [intOf]; done) | (simp [intOf]; omega)
                    · obtain rfl : n = k := by omega
                      have HLAST := hd (show t + 1 = P by rw [HP.out]; exact cut_last (by rw [← HP.out]; exact htP) hlim)
                      have hi0 : ¬ (n : Int) - 1 - (n : Int) ≥ 0 := by omega
                      clear hlim hv2
                      go_wp2
                      go_roundw
                      case rel => exact ⟨t + 1, _, false, v, rfl, rfl, hd (by rw [if_neg (by simp)]; exact HLAST.out), HO, HSB, HBw, HZ⟩
                      case measure => have n2' := HNUM.out; simp [isT, n2']; omega

end Go.Proofs.Ytdbojkanelmlkaa
