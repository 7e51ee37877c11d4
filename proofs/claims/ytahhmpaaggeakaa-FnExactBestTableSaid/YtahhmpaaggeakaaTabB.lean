/- All tables of a period: the program's walk, where what is done may hold rows of its own. -/
import Derived.Test.YtahhmpaaggeakaaProg
import Derived.Test.YtahhmpaaggeakaaTab
namespace Go.Proofs.Ytahhmpaaggeakaa
open Go.RowKit Plain
set_option linter.unusedVariables false
set_option linter.unusedSimpArgs false
attribute [local go_sem ↓] Go.wp_at_zero Go.wp_at_succ

set_option maxHeartbeats 4000000 in
set_option maxRecDepth 100000 in
theorem tables_BestTable_run2 (bx bz : Nat) (n p : Nat) (v : Value) (l : List Q4) (w : World) (hok : okT n p l = true) (c : Bool) (J : Nat → Nat → World → Prop) (F : World → Prop)
    (hS : ∀ g k w1, J g k w1 → Sl w1 4 v l.length (q4s l)) (hZ : ∀ g k w1, J g k w1 → w.heap.size ≤ w1.heap.size)
    (hG : ∀ g k w1 w2, J g k w1 → w.heap.size ≤ g → w1.grownBy w2 (some g) → J g k w2)
    (hNo : ∀ g k w1, k < p ^ (n - 1) → keepsB l p (tabK p n k) = false → J g k w1 → J g (k + 1) w1)
    (hYes : ∀ g k w1 u, k < p ^ (n - 1) → keepsB l p (tabK p n k) = true → w.heap.size ≤ g → g < w1.heap.size → J g k w1 → Sl w1 1 u n ((tabK p n k).map vi) →
      Calls Try.prog 105 #[u, .int .i64 (sumW l p (tabK p n k) l.length), .pointer (some ⟨bx, 0, none⟩), .pointer (some ⟨bz, 0, none⟩)] w1 fun e w2 => e = .returned (.bool c) ∧ (if c = true then J g (k + 1) w2 else F w2) ∧ (∀ i, w.heap.size ≤ i → i < w1.heap.size → w2.heap[i]? = w1.heap[i]?))
    (h0 : ∀ g, w.heap.size ≤ g → J g 0 w) :
    Calls Try.prog 83 #[.int .i64 n, v, .int .i64 p, (.func (.func 105) #[] #[.pointer (some ⟨bx, 0, none⟩), .pointer (some ⟨bz, 0, none⟩)])] w fun e w' => e = .returned (.bool true) ∧ ∃ g, (if c = true then J g (p ^ (n - 1)) w' else (F w' ∨ J g (p ^ (n - 1)) w')) := by
  obtain ⟨h1, h2, n1, n2, p1, p2, l32⟩ := okT_facts hok
  have A1 := hd (AreRules_any n v l p w (hS _ 0 w (h0 _ (Nat.le_refl _))))
  rw [h1] at A1
  have e1 : ((n : Int) - 1) = ((n - 1 : Nat) : Int) := by omega
  have PW := hd (fun w' => powered_any p (n - 1) (by omega) (by omega) w')
  have hb2 : pwC 65537 p (n - 1) ≤ 4096 := by rw [pwC_eq (by omega) (by omega)]; omega
  rw [← e1] at PW
  have b3 : ((pwC 65537 p (n - 1) : Nat) : Int) ≤ (4096 : Nat) := by exact_mod_cast hb2
  generalize pwC 65537 p (n - 1) = q at *
  have WT := hd (fun g k w1 u (hj : J g k w1) hu => waits_any v u l (tabK p n k) p w1 (hS g k w1 hj) (by rw [tabK_len]; exact hu) (tabOk h1 k))
  have HG := hd hG; have HN := hd hNo; have HY := hd hYes; have HZ := hd hZ
  have H0 := hd h0
  have N1 : (1 : Int) ≤ n := by omega
  have N2 : (n : Int) ≤ 12 := by omega
  have P1 : (1 : Int) ≤ p := by omega
  have P2 : (p : Int) ≤ 60 := by omega
  have TZ := hd (tab_zero (p := p) (ev := n))
  have CZ := hd (fun k => carry_zero (p := p) (ev := n) (k := k))
  have CS := hd (fun k a h => carry_step (p := p) (ev := n) (k := k) (a := a) h)
  have NT := hd (fun k j a b c => next_table (p := p) (ev := n) (k := k) (j := j) (by omega) a b c)
  have LT := hd (fun k a b => last_table (p := p) (ev := n) (k := k) (by omega) a b)
  have NL := hd (fun k j a b c d => not_last (p := p) (ev := n) (k := k) (j := j) (by omega) a b c d)
  have RS := hd (fun k j a b => rest_step (p := p) (k := k) (j := j) (by omega) a b)
  have CG := hd (fun k a i h => carry_get (p := p) (ev := n) (k := k) (a := a) (i := i) h)
  have SB := hd (fun k => sumW_bd (tabOk h1 k) l.length)
  have SN := hd (fun k => waitsM_snd l p (tabK p n k))
  have SY := hd (fun k (h : keepsB l p (tabK p n k) = true) => (show (waitsM l p (tabK p n k)).1 = sumW l p (tabK p n k) l.length from by rw [waitsM, if_pos h]))
  have DL := hd (fun k i => dig_lt (p := p) (by omega) n k i)
  have NW := hd (fun w1 cap g base k (hk : k < p ^ (n - 1)) h => numW_tab (w := w1) (base := base) (e := 2) (g := g) (n := n) (cap := cap) (p := p) (k := k) (by omega) n1 hk h)
  have A0 : 0 < p ^ (n - 1) := Nat.pow_pos (by omega)
  obtain ⟨all, hall⟩ : ∃ a, a = p ^ (n - 1) := ⟨_, rfl⟩
  rw [← hall] at HN HY NW A0 LT NL h2 ⊢
  clear hok hS hZ hG hNo hYes h0 h1 e1 hb2
  have Hall := hd hall
  clear hall
  go_enter Try.func83, Try.ntmps83
  go_wp2_with (first | (go_at_call 94; refine A1.out.mono ?_; rintro e w1 ⟨rfl, hb⟩) | (go_at_call 123; refine (PW.out _).mono ?_; rintro e w2 ⟨rfl, rfl⟩) | (at_make; go_must (refine wpList_make_int _ rfl _ rfl _ _ n rfl rfl (by omega) ?_); intro w3 ho3 hb3))
  clear A1 PW
  have hJ3 := HG.out w1.heap.size 0 _ _ (HG.out w1.heap.size 0 _ _ (H0.out _ hb.size) hb.size (below_all hb _)) hb.size (below_all hb3 _)
  generalize hg : w1.heap.size = g at *
  have Hg := hd (show w.heap.size ≤ g by rw [← hg]; exact hb.size)
  have Ho := hd ho3; have HJ := hd hJ3
  clear ho3 hb3 hb hJ3 hg
  go_loopw [12] (fun _ wr => ∃ k : Nat, k < all ∧ wr.ownsRow g 2 1 (.slice (some ⟨g, 0, none⟩) n n) n ((tabK p n k).map vi) ∧ J g k wr) (fun _ wr => all - numW g n p wr)
  case atStart => exact ⟨0, A0, by rw [TZ.out]; simpa [vi] using Ho.out, HJ.out⟩
  case round =>
    obtain ⟨k, hk, ho, hJ⟩ := hrel
    clear Ho HJ
    have hnum := NW.out _ _ _ _ k hk ho
    have Hnum := hd hnum
    clear hnum
    cases c with
    | true =>
      cases hkb : keepsB l p (tabK p n k) with
      | false =>
        have W := WT.out g k wr _ hJ (own_sl ho (size_le (by omega)))
        rw [SN.out k, hkb] at W
        have WH := hd W
        have Ho := hd ho; have HJ := hd hJ
        clear W ho hJ
        go_wp2_with (first | (go_at_call 124; refine WH.out.mono ?_; rintro e w4 ⟨rfl, hb4⟩))
        have hO4 := own_below Ho.out hb4
        have hJ4 := HN.out g k _ hk hkb (HG.out g k _ _ HJ.out Hg.out (below_all hb4 _))
        clear Ho HJ WH hb4
        have HO5 := hd hO4; have HJ6 := hd hJ4
        clear hO4 hJ4
        go_loopw [12] (fun at' wr5 => ∃ a : Nat, at' = .int .i64 a ∧ a ≤ n - 1 ∧ Hid (k % p ^ (n - 1 - a) = p ^ (n - 1 - a) - 1) ∧ wr5.ownsRow g 2 1 (.slice (some ⟨g, 0, none⟩) n n) n ((carry p n k a).map vi) ∧ J g (k + 1) wr5) (fun at' _ => (intOf at').toNat)
        case atStart => exact ⟨n - 1, by go_num, by omega, hd (by simp; omega), by rw [CZ.out]; exact HO5.out, HJ6.out⟩
        case round =>
          obtain ⟨a, rfl, ha, hres, ho6, hj6⟩ := hrel
          clear HO5 HJ6
          by_cases a0 : a = 0
          · subst a0
            have hlast := LT.out k hk (by have := hres.out; rw [Hall.out]; simpa using this)
            have HJ5 := hj6
            rw [hlast] at HJ5
            clear hlast
            go_wp2
            go_ret
            simp only [if_true, Bool.false_eq_true, if_false]
            exact ⟨rfl, g, Hall.out ▸ HJ5⟩
          · obtain ⟨a', rfl⟩ : ∃ a', a = a' + 1 := ⟨a - 1, by omega⟩
            have hdl := DL.out k (a' + 1)
            have hcell := ho6.cellAt (a' + 1) (by omega)
            rw [List.getElem?_map, CG.out k (a' + 1) (a' + 1) (by omega), if_neg (by omega)] at hcell
            simp only [Option.map_some, vi] at hcell
            have hdig : dig p n k (a' + 1) = (k / p ^ (n - 1 - (a' + 1))) % p := by rw [dig, if_neg (by omega)]
            have hja : n - 1 - (n - 1 - (a' + 1)) = a' + 1 := by omega
            have HD := hd hdig; have HJA := hd hja
            clear hdig hja
            generalize hdv : dig p n k (a' + 1) = d at *
            have HDV := hd hdv
            clear hdv
            have x1 : (0 : Int) < (a' + 1 : Nat) := by omega
            have x2 : ((a' + 1 : Nat) : Int) < n := by omega
            by_cases hd1 : (d : Int) = (p : Int) - 1
            · have hrs := RS.out k (n - 1 - (a' + 1)) hres.out (by rw [← HD.out]; omega)
              rw [show n - 1 - (a' + 1) + 1 = n - 1 - a' by omega] at hrs
              have HRS := hd hrs
              have HJ7 := hd hj6
              have hd1' := hd hd1
              clear hrs hj6
              rw [hd1] at hcell
              clear hd1
              go_wp2_with ((with_reducible refine wpList_store_own _ g 2 1 n n g _ ho6 size_int ?_ ?_ ?_ ?_ ?_ ?_ ?_); rotate_left 2; exact rfl; exact rfl; exact rfl; omega; intro w6 ho7 hg7)
              go_roundw
              case rel =>
                have e : w6.ownsRow g 2 1 (.slice (some ⟨g, 0, none⟩) n n) n (((carry p n k (a' + 1)).map vi).set (a' + 1) (vi 0)) := ho7
                rw [← List.map_set, CS.out k a' (by omega)] at e
                exact ⟨a', by first | rfl | go_num | (simp; omega), by omega, HRS, e, HG.out g _ _ _ HJ7.out Hg.out hg7⟩
              case measure => simp [intOf]; try omega
            · have hnl := NL.out k (n - 1 - (a' + 1)) (by omega) hk hres.out (by rw [← HD.out]; omega)
              have hnt := NT.out k (n - 1 - (a' + 1)) (by omega) hres.out (by rw [← HD.out]; omega)
              rw [HJA.out, HDV.out] at hnt
              have HNL := hd hnl; have HNT := hd hnt; have HJ7 := hd hj6
              clear hnl hnt hj6
              have dp : (d : Int) < p := by omega
              go_wp2_with ((with_reducible refine wpList_store_own _ g 2 1 n n g _ ho6 size_int ?_ ?_ ?_ ?_ ?_ ?_ ?_); rotate_left 2; exact rfl; exact rfl; exact rfl; omega; intro w6 ho7 hg7)
              have e : w6.ownsRow g 2 1 (.slice (some ⟨g, 0, none⟩) n n) n (((carry p n k (a' + 1)).map vi).set (a' + 1) (vi ((d : Int) + 1))) := ho7
              rw [← List.map_set, HNT.out] at e
              go_roundw
              case rel =>
                exact ⟨k + 1, HNL.out, e, HG.out g _ _ _ HJ7.out Hg.out hg7⟩
              case measure =>
                rw [NW.out _ _ _ _ _ HNL.out e, Hnum.out]
                have := HNL.out
                omega

      | true =>
        have W := WT.out g k wr _ hJ (own_sl ho (size_le (by omega)))
        rw [SN.out k, hkb] at W
        rw [SY.out k hkb] at W
        have Y := fun w1 hgl hj hu => HY.out g k w1 (.slice (some ⟨g, 0, none⟩) n n) hk hkb Hg.out hgl hj hu
        obtain ⟨sb0, sb1⟩ := SB.out k
        have WH := hd W
        have Ho := hd ho; have HJ := hd hJ
        have YH := hd Y
        clear Y
        clear W ho hJ
        go_wp2_with (first | (go_at_call 124; refine WH.out.mono ?_; rintro e w4 ⟨rfl, hb4⟩) | (go_at_call 105; refine (YH.out _ (own_in (own_below Ho.out hb4) _ rfl) (HG.out g k _ _ HJ.out Hg.out (below_all hb4 _)) (own_sl (own_below Ho.out hb4) (size_le (by omega)))).mono ?_; rintro e w5 ⟨rfl, hj5, hh5⟩))
        have hO4 := own_heap (own_below Ho.out hb4) (fun q hq => hh5 q (by cases hq; exact Hg.out) (by cases hq; exact (own_in (own_below Ho.out hb4) _ rfl)))
        have hJ4 : J g (k + 1) w5 := by simpa using hj5
        clear Ho HJ WH YH hb4 hh5 hj5
        have HO5 := hd hO4; have HJ6 := hd hJ4
        clear hO4 hJ4
        go_loopw [12] (fun at' wr5 => ∃ a : Nat, at' = .int .i64 a ∧ a ≤ n - 1 ∧ Hid (k % p ^ (n - 1 - a) = p ^ (n - 1 - a) - 1) ∧ wr5.ownsRow g 2 1 (.slice (some ⟨g, 0, none⟩) n n) n ((carry p n k a).map vi) ∧ J g (k + 1) wr5) (fun at' _ => (intOf at').toNat)
        case atStart => exact ⟨n - 1, by go_num, by omega, hd (by simp; omega), by rw [CZ.out]; exact HO5.out, HJ6.out⟩
        case round =>
          obtain ⟨a, rfl, ha, hres, ho6, hj6⟩ := hrel
          clear HO5 HJ6
          by_cases a0 : a = 0
          · subst a0
            have hlast := LT.out k hk (by have := hres.out; rw [Hall.out]; simpa using this)
            have HJ5 := hj6
            rw [hlast] at HJ5
            clear hlast
            go_wp2
            go_ret
            simp only [if_true, Bool.false_eq_true, if_false]
            exact ⟨rfl, g, Hall.out ▸ HJ5⟩
          · obtain ⟨a', rfl⟩ : ∃ a', a = a' + 1 := ⟨a - 1, by omega⟩
            have hdl := DL.out k (a' + 1)
            have hcell := ho6.cellAt (a' + 1) (by omega)
            rw [List.getElem?_map, CG.out k (a' + 1) (a' + 1) (by omega), if_neg (by omega)] at hcell
            simp only [Option.map_some, vi] at hcell
            have hdig : dig p n k (a' + 1) = (k / p ^ (n - 1 - (a' + 1))) % p := by rw [dig, if_neg (by omega)]
            have hja : n - 1 - (n - 1 - (a' + 1)) = a' + 1 := by omega
            have HD := hd hdig; have HJA := hd hja
            clear hdig hja
            generalize hdv : dig p n k (a' + 1) = d at *
            have HDV := hd hdv
            clear hdv
            have x1 : (0 : Int) < (a' + 1 : Nat) := by omega
            have x2 : ((a' + 1 : Nat) : Int) < n := by omega
            by_cases hd1 : (d : Int) = (p : Int) - 1
            · have hrs := RS.out k (n - 1 - (a' + 1)) hres.out (by rw [← HD.out]; omega)
              rw [show n - 1 - (a' + 1) + 1 = n - 1 - a' by omega] at hrs
              have HRS := hd hrs
              have HJ7 := hd hj6
              have hd1' := hd hd1
              clear hrs hj6
              rw [hd1] at hcell
              clear hd1
              go_wp2_with ((with_reducible refine wpList_store_own _ g 2 1 n n g _ ho6 size_int ?_ ?_ ?_ ?_ ?_ ?_ ?_); rotate_left 2; exact rfl; exact rfl; exact rfl; omega; intro w6 ho7 hg7)
              go_roundw
              case rel =>
                have e : w6.ownsRow g 2 1 (.slice (some ⟨g, 0, none⟩) n n) n (((carry p n k (a' + 1)).map vi).set (a' + 1) (vi 0)) := ho7
                rw [← List.map_set, CS.out k a' (by omega)] at e
                exact ⟨a', by first | rfl | go_num | (simp; omega), by omega, HRS, e, HG.out g _ _ _ HJ7.out Hg.out hg7⟩
              case measure => simp [intOf]; try omega
            · have hnl := NL.out k (n - 1 - (a' + 1)) (by omega) hk hres.out (by rw [← HD.out]; omega)
              have hnt := NT.out k (n - 1 - (a' + 1)) (by omega) hres.out (by rw [← HD.out]; omega)
              rw [HJA.out, HDV.out] at hnt
              have HNL := hd hnl; have HNT := hd hnt; have HJ7 := hd hj6
              clear hnl hnt hj6
              have dp : (d : Int) < p := by omega
              go_wp2_with ((with_reducible refine wpList_store_own _ g 2 1 n n g _ ho6 size_int ?_ ?_ ?_ ?_ ?_ ?_ ?_); rotate_left 2; exact rfl; exact rfl; exact rfl; omega; intro w6 ho7 hg7)
              have e : w6.ownsRow g 2 1 (.slice (some ⟨g, 0, none⟩) n n) n (((carry p n k (a' + 1)).map vi).set (a' + 1) (vi ((d : Int) + 1))) := ho7
              rw [← List.map_set, HNT.out] at e
              go_roundw
              case rel =>
                exact ⟨k + 1, HNL.out, e, HG.out g _ _ _ HJ7.out Hg.out hg7⟩
              case measure =>
                rw [NW.out _ _ _ _ _ HNL.out e, Hnum.out]
                have := HNL.out
                omega

    | false =>
      cases hkb : keepsB l p (tabK p n k) with
      | false =>
        have W := WT.out g k wr _ hJ (own_sl ho (size_le (by omega)))
        rw [SN.out k, hkb] at W
        have WH := hd W
        have Ho := hd ho; have HJ := hd hJ
        clear W ho hJ
        go_wp2_with (first | (go_at_call 124; refine WH.out.mono ?_; rintro e w4 ⟨rfl, hb4⟩))
        have hO4 := own_below Ho.out hb4
        have hJ4 := HN.out g k _ hk hkb (HG.out g k _ _ HJ.out Hg.out (below_all hb4 _))
        clear Ho HJ WH hb4
        have HO5 := hd hO4; have HJ6 := hd hJ4
        clear hO4 hJ4
        go_loopw [12] (fun at' wr5 => ∃ a : Nat, at' = .int .i64 a ∧ a ≤ n - 1 ∧ Hid (k % p ^ (n - 1 - a) = p ^ (n - 1 - a) - 1) ∧ wr5.ownsRow g 2 1 (.slice (some ⟨g, 0, none⟩) n n) n ((carry p n k a).map vi) ∧ J g (k + 1) wr5) (fun at' _ => (intOf at').toNat)
        case atStart => exact ⟨n - 1, by go_num, by omega, hd (by simp; omega), by rw [CZ.out]; exact HO5.out, HJ6.out⟩
        case round =>
          obtain ⟨a, rfl, ha, hres, ho6, hj6⟩ := hrel
          clear HO5 HJ6
          by_cases a0 : a = 0
          · subst a0
            have hlast := LT.out k hk (by have := hres.out; rw [Hall.out]; simpa using this)
            have HJ5 := hj6
            rw [hlast] at HJ5
            clear hlast
            go_wp2
            go_ret
            simp only [if_true, Bool.false_eq_true, if_false]
            exact ⟨rfl, g, .inr (Hall.out ▸ HJ5)⟩
          · obtain ⟨a', rfl⟩ : ∃ a', a = a' + 1 := ⟨a - 1, by omega⟩
            have hdl := DL.out k (a' + 1)
            have hcell := ho6.cellAt (a' + 1) (by omega)
            rw [List.getElem?_map, CG.out k (a' + 1) (a' + 1) (by omega), if_neg (by omega)] at hcell
            simp only [Option.map_some, vi] at hcell
            have hdig : dig p n k (a' + 1) = (k / p ^ (n - 1 - (a' + 1))) % p := by rw [dig, if_neg (by omega)]
            have hja : n - 1 - (n - 1 - (a' + 1)) = a' + 1 := by omega
            have HD := hd hdig; have HJA := hd hja
            clear hdig hja
            generalize hdv : dig p n k (a' + 1) = d at *
            have HDV := hd hdv
            clear hdv
            have x1 : (0 : Int) < (a' + 1 : Nat) := by omega
            have x2 : ((a' + 1 : Nat) : Int) < n := by omega
            by_cases hd1 : (d : Int) = (p : Int) - 1
            · have hrs := RS.out k (n - 1 - (a' + 1)) hres.out (by rw [← HD.out]; omega)
              rw [show n - 1 - (a' + 1) + 1 = n - 1 - a' by omega] at hrs
              have HRS := hd hrs
              have HJ7 := hd hj6
              have hd1' := hd hd1
              clear hrs hj6
              rw [hd1] at hcell
              clear hd1
              go_wp2_with ((with_reducible refine wpList_store_own _ g 2 1 n n g _ ho6 size_int ?_ ?_ ?_ ?_ ?_ ?_ ?_); rotate_left 2; exact rfl; exact rfl; exact rfl; omega; intro w6 ho7 hg7)
              go_roundw
              case rel =>
                have e : w6.ownsRow g 2 1 (.slice (some ⟨g, 0, none⟩) n n) n (((carry p n k (a' + 1)).map vi).set (a' + 1) (vi 0)) := ho7
                rw [← List.map_set, CS.out k a' (by omega)] at e
                exact ⟨a', by first | rfl | go_num | (simp; omega), by omega, HRS, e, HG.out g _ _ _ HJ7.out Hg.out hg7⟩
              case measure => simp [intOf]; try omega
            · have hnl := NL.out k (n - 1 - (a' + 1)) (by omega) hk hres.out (by rw [← HD.out]; omega)
              have hnt := NT.out k (n - 1 - (a' + 1)) (by omega) hres.out (by rw [← HD.out]; omega)
              rw [HJA.out, HDV.out] at hnt
              have HNL := hd hnl; have HNT := hd hnt; have HJ7 := hd hj6
              clear hnl hnt hj6
              have dp : (d : Int) < p := by omega
              go_wp2_with ((with_reducible refine wpList_store_own _ g 2 1 n n g _ ho6 size_int ?_ ?_ ?_ ?_ ?_ ?_ ?_); rotate_left 2; exact rfl; exact rfl; exact rfl; omega; intro w6 ho7 hg7)
              have e : w6.ownsRow g 2 1 (.slice (some ⟨g, 0, none⟩) n n) n (((carry p n k (a' + 1)).map vi).set (a' + 1) (vi ((d : Int) + 1))) := ho7
              rw [← List.map_set, HNT.out] at e
              go_roundw
              case rel =>
                exact ⟨k + 1, HNL.out, e, HG.out g _ _ _ HJ7.out Hg.out hg7⟩
              case measure =>
                rw [NW.out _ _ _ _ _ HNL.out e, Hnum.out]
                have := HNL.out
                omega

      | true =>
        have W := WT.out g k wr _ hJ (own_sl ho (size_le (by omega)))
        rw [SN.out k, hkb] at W
        rw [SY.out k hkb] at W
        have Y := fun w1 hgl hj hu => HY.out g k w1 (.slice (some ⟨g, 0, none⟩) n n) hk hkb Hg.out hgl hj hu
        obtain ⟨sb0, sb1⟩ := SB.out k
        have WH := hd W
        have Ho := hd ho; have HJ := hd hJ
        have YH := hd Y
        clear Y
        clear W ho hJ
        go_wp2_with (first | (go_at_call 124; refine WH.out.mono ?_; rintro e w4 ⟨rfl, hb4⟩) | (go_at_call 105; refine (YH.out _ (own_in (own_below Ho.out hb4) _ rfl) (HG.out g k _ _ HJ.out Hg.out (below_all hb4 _)) (own_sl (own_below Ho.out hb4) (size_le (by omega)))).mono ?_; rintro e w5 ⟨rfl, hj5, hh5⟩))
        go_ret
        simp only [Bool.false_eq_true, if_false] at hj5 ⊢
        exact ⟨rfl, g, .inl hj5⟩


end Go.Proofs.Ytahhmpaaggeakaa
