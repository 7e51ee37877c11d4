/- The longest way by the reference: a contract. -/
import Derived.Test.YtaeajjfdljpioaaProP
import Derived.Test.YtaeajjfdljpioaaProI
import Derived.Test.YtaeajjfdljpioaaCopy
namespace Go.Proofs.Ytaeajjfdljpioaa
open Go.RowKit Plain
set_option linter.unusedVariables false
set_option linter.unusedSimpArgs false
attribute [local go_sem ↓] Go.wp_at_zero Go.wp_at_succ
theorem rd_own' {w : World} {base e n cap g : Nat} {s : List Int} (ho : w.ownsRow base e 1 (.slice (some ⟨g, 0, none⟩) n cap) n (s.map vi)) (n9 : n ≤ 1000) : Rd w 1 (some ⟨g, 0, none⟩) n (s.map vi) := by
  obtain ⟨_, _, e9, _, hr⟩ := own_sl ho (by unfold maxLen; omega)
  cases e9
  exact hr
set_option maxHeartbeats 4000000 in
theorem LongestWay_spec (b o c : Nat) (ts : List TK) (n : Nat) (w : World) (h : TA w b o c ts n) (at0 : Nat) (ha : at0 < n) (he : eS ts n at0 + (tkAt ts at0).a = lastF ts (eS ts n) n) (hne : ∀ j, j < at0 → eS ts n j + (tkAt ts j).a ≠ lastF ts (eS ts n) n) :
    Calls Try.prog 14 #[.slice (some ⟨b, o, none⟩) n c] w (WayOut (wayL ts (eS ts n) n at0).reverse w) := by
  have HT := hd h
  have n1 := h.n1
  have n9 := h.n9
  have hnc := h.nc
  have HA := hd (l03Are_any b o c ts n w h)
  have HE := hd (fun w' hb => l03Early_any b o c ts n w' (h.below hb))
  have HL := hd (fun w' hb V hs => l03End_any b o c ts n w' (h.below hb) V (earlyL ts n n) hs)
  have E0 := hd (show lastF ts (fun j => (earlyL ts n n).getD j 0) n = lastF ts (eS ts n) n from rfl)
  have EBL := hd (fun j => early_bd h.ok n (Nat.le_refl _) j)
  have EB := hd (fun j => eS_bd h.ok j)
  have HEa := hd he
  have HNa := hd hne
  clear h he hne
  go_enter Try.func14, Try.ntmps14
  go_wp2_with fail
  go_at_call 33
  refine HA.out.mono ?_
  rintro e' w1 ⟨rfl, hb1⟩
  have B1 := hd hb1
  clear hb1 HA
  go_wp2_with fail
  go_at_call 34
  refine (HE.out w1 B1.out).mono ?_
  rintro e' w2 ⟨rfl, ho2, hb2⟩
  have B2 := hd (below_tr hb2 B1.out)
  have HR2 := hd (rd_own ho2 n9)
  have S2 := hd (starts_own ho2 n9 (fun k hk => by have := EBL.out k; omega))
  generalize w1.heap.size = g at *
  clear ho2 hb2 HE
  go_wp2_with fail
  go_at_call 35
  refine (HL.out w2 B2.out _ S2.out).mono ?_
  rintro e' w3 ⟨rfl, hb3⟩
  rw [E0.out]
  have B3 := hd (below_tr hb3 B2.out)
  have HR3 := hd (HR2.out.below hb3)
  obtain ⟨e, heq⟩ : ∃ e, e = lastF ts (eS ts n) n := ⟨_, rfl⟩
  rw [← heq] at HEa HNa ⊢
  clear hb3 heq HL E0 HR2 S2 B1 B2
  go_wp2
  go_loopw [6] (fun iv wr => ∃ k q : Nat, k ≤ at0 ∧ iv = .int .i64 k ∧ wr = w3.drewN q) (fun iv _ => n - (intOf iv).toNat)
  case atStart => exact ⟨0, 0, by omega, rfl, rfl⟩
  case round =>
    obtain ⟨k, q, hk, rfl, hwr⟩ := hrel
    subst hwr
    have hkn : k < n := by omega
    have k2 : (k : Int) < (n : Int) := Int.ofNat_lt.2 hkn
    have cE := rd_cell HR3.out hkn
    obtain ⟨_, _, _, _, ca, _⟩ := (HT.out.below B3.out).cl k hkn
    have b1 := EB.out k
    have a0 := (HT.out.ok k hkn).a0
    have a1 := (HT.out.ok k hkn).a1
    have HQ := hd (show k = at0 → (earlyL ts n n).getD k 0 + (tkAt ts k).a = e from fun h => by rw [h]; exact HEa.out)
    have HQ2 := hd (show k < at0 → (earlyL ts n n).getD k 0 + (tkAt ts k).a ≠ e from fun h => HNa.out k h)
    rw [eS] at b1
    generalize (earlyL ts n n).getD k 0 = x at *
    generalize (tkAt ts k).a = ta at *
    have hw1 : IntKind.i64.wrap (x + ta) = x + ta := IntWalk.i64_in _ (by omega)
    clear b1 a0 a1
    by_cases hka : k < at0
    · have hne := HQ2.out hka
      have hne2 : (x + ta != e) = true := by simpa using hne
      have hne3 : (x + ta == e) = false := by simpa using hne
      go_wp2_with fail
      go_quiet (fail)
      clear cE ca hw1 hne hne2 hne3
      go_wp2
      go_roundw
      case rel => exact ⟨k + 1, q + nq, by omega, by go_num, by first | rfl | rw [World.drewN_drewN]⟩
      case measure => simp [intOf]; omega
    · obtain rfl : at0 = k := by omega
      have heq := HQ.out rfl
      subst heq
      have WS := hd (fun i hi h1 h2 => way_step (ts := ts) (st := eS ts n) HT.out.ok (i := i) hi h1 h2)
      have WT := hd (fun i h0 => way_stop (ts := ts) (n := n) (st := eS ts n) (i := i) h0)
      have TL := hd (fun i hi h2 => tell_lt (ts := ts) (st := eS ts n) HT.out.ok (i := i) hi h2)
      have HT4 := hd (fun i => (show tell ts (eS ts n) i = tellF ts (eS ts n) i (tkAt ts i).bf.length from rfl))
      have HQT := hd (fun q' => (show (w3.drewN q').heap.size = w3.heap.size from rfl))
      go_wp2_with fail
      go_quiet (fail)
      obtain ⟨w4, hw4⟩ : ∃ w4, w4 = w3.drewN (q + nq) := ⟨_, rfl⟩
      have HR4 := hd (show Rd w4 1 (some ⟨g, 0, none⟩) n ((earlyL ts n n).map vi) by rw [hw4]; exact HR3.out)
      have HBW4 := hd (show Below w.heap.size w w4 by rw [hw4]; exact below_drewN B3.out _)
      have HW4 := hd (show w.heap.size ≤ w4.heap.size from HBW4.out.size)
      try rw [World.drewN_drewN]
      rw [← hw4]
      clear hw4 cE ca hw1 HR3 B3 HQT HQ HQ2
      have HG4 := hd (show ∀ x : Nat, x = w4.heap.size → (w4.alloc (.cells #[.int .i64 at0] 2)).ownsRow w4.heap.size 2 1 (.slice (some ⟨w4.heap.size, 0, none⟩) 1 1) 1 (([] ++ [(at0 : Int)]).reverse.map vi) from fun x _ => World.ownsRow_lit (base := w4.heap.size) (e := 2) (size := 1) w4 #[.int .i64 at0] 1 (Nat.le_refl _) (by unfold maxLen; omega) rfl)
      go_wp2
      go_loopw [6, 7] (fun av ov wr => ∃ (i m gO cO : Nat) (pre : List Int), i < n ∧ av = .int .i64 i ∧ ov = .slice (some ⟨gO, 0, none⟩) m cO ∧ Hid (pre.length + 1 = m) ∧ Hid (m + i ≤ n + 1) ∧ Hid (pre ++ wayL ts (eS ts n) n i = wayL ts (eS ts n) n at0) ∧ Hid (wr.ownsRow w4.heap.size 2 1 (.slice (some ⟨gO, 0, none⟩) m cO) m ((pre ++ [(i : Int)]).reverse.map vi)) ∧ Hid (Below w4.heap.size w4 wr)) (fun av _ _ => (intOf av).toNat)
      case atStart => exact ⟨at0, 1, w4.heap.size, 1, [], hkn, rfl, rfl, hd rfl, hd (by omega), hd rfl, hd (HG4.out _ rfl), hd ((Below.refl _ _).alloc (Nat.le_refl _) _)⟩
      case round =>
        clear HG4
        obtain ⟨i, m, gO, cO, pre, hi, rfl, rfl, HPL, HMI, HW, HO, HB⟩ := hrel
        have TAr := hd (HT.out.below (below_tr HB.out HBW4.out))
        have RRr := hd (HR4.out.below HB.out)
        have cE := rd_cell RRr.out hi
        have T6 := hd (TAr.out.cl i hi)
        have i2 : (i : Int) < (n : Int) := Int.ofNat_lt.2 hi
        have HGO := hd (show w4.heap.size ≤ gO from (World.ownsRow.lt HO.out gO rfl).1)
        have eb := EB.out i
        obtain ⟨x, hx⟩ : ∃ x, x = (earlyL ts n n).getD i 0 := ⟨_, rfl⟩
        rw [← hx] at cE
        have HX := hd (show x = eS ts n i from hx)
        by_cases hx0 : 0 < x
        · obtain ⟨Ab, cb, Al, cl, _, _, c2, c3, hb, hl, hcb, hcl⟩ := TAr.out.cl i hi
          have OK := hd (HT.out.ok i hi)
          have hsh := OK.out.short
          have TF := hd (HT4.out i)
          have TZ := hd (show tellF ts (eS ts n) i 0 = -1 from rfl)
          have TS := hd (fun k => (show tellF ts (eS ts n) i (k + 1) = if tellF ts (eS ts n) i k < 0 ∧ eS ts n (bN (tkAt ts i) k) + (tkAt ts (bN (tkAt ts i) k)).a + (tkAt ts i).lg.getD k 0 = eS ts n i then (bN (tkAt ts i) k : Int) else tellF ts (eS ts n) i k from rfl))
          have TI := hd (fun k => tellF_is (ts := ts) (st := eS ts n) (i := i) k)
          generalize tellF ts (eS ts n) i = f at *
          generalize tkAt ts i = t at *
          obtain ⟨ml, hml⟩ : ∃ ml, ml = t.bf.length := ⟨_, rfl⟩
          have HM := hd hml
          rw [← hml] at c2 c3 hb hl hsh TF
          have RB := hd hb
          have RL := hd hl
          clear hml hb hl hcb hcl hx eb
          go_wp2
          go_loopw [8, 46] (fun fv iv wr2 => ∃ k q : Nat, k ≤ ml ∧ iv = .int .i64 k ∧ fv = .int .i64 (f k) ∧ wr2 = wr.drewN q) (fun _ iv _ => ml - (intOf iv).toNat)
          case atStart => exact ⟨0, 0, by omega, rfl, by rw [TZ.out], rfl⟩
          case round =>
            obtain ⟨k, q, hk, rfl, rfl, hwr⟩ := hrel
            subst hwr
            by_cases hkm : k < ml
            · have k2 : (k : Int) < (ml : Int) := Int.ofNat_lt.2 hkm
              have hkl : k < t.bf.length := by have := HM.out; omega
              obtain ⟨bb, ob, rfl, cb'⟩ := RB.out.int hkm
              obtain ⟨bl, ol, rfl, cl'⟩ := RL.out.int hkm
              rw [OK.out.cast hkl] at cb'
              have hj := OK.out.lt hkl
              have hjn : bN t k < n := by omega
              obtain ⟨_, _, _, _, ca, _⟩ := TAr.out.cl (bN t k) hjn
              have cJ := rd_cell RRr.out hjn
              have a0 := (HT.out.ok (bN t k) hjn).a0
              have a1 := (HT.out.ok (bN t k) hjn).a1
              have ej := EB.out (bN t k)
              have lg := OK.out.l0 k hkl
              have ts1 := TS.out k
              have ti := TI.out k
              rw [← HX.out] at ts1
              rw [eS] at ej ts1
              rw [← HX.out] at ti
              generalize bN t k = j at *
              generalize (earlyL ts n n).getD j 0 = y at *
              generalize (tkAt ts j).a = ta at *
              generalize t.lg.getD k 0 = z at *
              have w1 : IntKind.i64.wrap (y + ta) = y + ta := IntWalk.i64_in _ (by omega)
              have w2' : IntKind.i64.wrap (y + ta + z) = y + ta + z := IntWalk.i64_in _ (by omega)
              have hj2 : (j : Int) < (n : Int) := Int.ofNat_lt.2 hjn
              obtain ⟨f0, hf0⟩ : ∃ f0, f0 = f k := ⟨_, rfl⟩
              rw [← hf0] at ts1 ⊢
              clear hf0 ti a0 a1 ej lg hkl hj
              by_cases hf : f0 < 0
              · have hf2 : decide (f0 < 0) = true := decide_eq_true hf
                by_cases he : y + ta + z = x
                · rw [if_pos ⟨hf, he⟩] at ts1
                  have TS1 := hd ts1
                  clear ts1 TS
                  subst he
                  go_wp2_with fail
                  go_quiet (fail)
                  clear cb' cl' ca cJ w1 w2'
                  go_wp2
                  go_roundw
                  case rel => exact ⟨k + 1, q + nq, by omega, by go_num, by rw [TS1.out], by first | rfl | rw [World.drewN_drewN]⟩
                  case measure => simp [intOf]; omega
                · rw [if_neg (fun h => he h.2)] at ts1
                  have TS1 := hd ts1
                  have he2 : (y + ta + z == x) = false := by simpa using he
                  clear ts1 TS
                  go_wp2_with fail
                  go_quiet (fail)
                  clear cb' cl' ca cJ w1 w2'
                  go_wp2
                  go_roundw
                  case rel => exact ⟨k + 1, q + nq, by omega, by go_num, by rw [TS1.out], by first | rfl | rw [World.drewN_drewN]⟩
                  case measure => simp [intOf]; omega
              · rw [if_neg (fun h => hf h.1)] at ts1
                have TS1 := hd ts1
                have hf2 : decide (f0 < 0) = false := decide_eq_false hf
                clear ts1 TS
                go_wp2_with fail
                go_quiet (fail)
                clear cb' cl' ca cJ w1 w2'
                go_wp2
                go_roundw
                case rel => exact ⟨k + 1, q + nq, by omega, by go_num, by rw [TS1.out], by first | rfl | rw [World.drewN_drewN]⟩
                case measure => simp [intOf]; omega
            · obtain rfl : ml = k := by omega
              rw [← TF.out]
              have TLi := TL.out i hi
              have WSi := WS.out i hi
              have WTi := WT.out i
              obtain ⟨tv, htv⟩ : ∃ tv, tv = tell ts (eS ts n) i := ⟨_, rfl⟩
              rw [← htv] at TLi WSi WTi ⊢
              by_cases ht : tv < 0
              · have DE := hd (show pre ++ [(i : Int)] = wayL ts (eS ts n) n at0 by rw [← HW.out, WTi (fun h => by omega)])
                obtain ⟨d, hdd⟩ : ∃ d, d = pre ++ [(i : Int)] := ⟨_, rfl⟩
                rw [← hdd] at DE HO
                have DL2 := hd (show d.length = m by rw [hdd, List.length_append]; exact HPL.out)
                have DL := hd (show m ≤ 10 by have := HMI.out; omega)
                have BCUR := hd (below_drewN HB.out q)
                have OCUR := hd (show (wr.drewN q).ownsRow w4.heap.size 2 1 (.slice (some ⟨gO, 0, none⟩) m cO) m (d.reverse.map vi) from HO.out)
                clear hdd HX htv TLi WSi WTi TF TS TI TZ HT4
                have HOz := hd (own_mono OCUR.out HW4.out)
                go_wp2
                go_ret2
                have hlen : (wayL ts (eS ts n) n at0).reverse.length = m := by rw [List.length_reverse, ← DE.out, DL2.out]
                exact ⟨gO, cO, by (rw [hlen]; rfl), by rw [hlen, ← DE.out]; exact HOz.out, below_tr BCUR.out HBW4.out⟩
              · obtain ⟨j, hjv⟩ : ∃ j : Nat, tv = (j : Int) := ⟨tv.toNat, by omega⟩
                have hji : j < i := by have := TLi (by omega); omega
                have HW2 := hd (show (pre ++ [(i : Int)]) ++ wayL ts (eS ts n) n j = wayL ts (eS ts n) n at0 by
                  rw [← HW.out, WSi (by rw [← HX.out]; exact hx0) (by omega), hjv, Int.toNat_natCast, List.append_assoc]; rfl)
                have OCUR := hd (show (wr.drewN q).ownsRow w4.heap.size 2 1 (.slice (some ⟨gO, 0, none⟩) m cO) m ((pre ++ [(i : Int)]).reverse.map vi) from HO.out)
                have BCUR := hd (below_drewN HB.out q)
                have hm9 : m ≤ 10 := by have := HMI.out; omega
                have hm1 : 0 < m := by have := HPL.out; omega
                subst hjv
                have HJI := hd hji
                clear HX htv TLi WSi WTi TF TS TI TZ HT4 HO hji
                generalize wr.drewN q = wx at *
                have RO := rd_own' OCUR.out (by omega)
                have HLIT := hd (own_mono (World.ownsRow_lit (base := wx.heap.size) (e := 2) (size := 1) wx #[.int .i64 j] 1 (Nat.le_refl _) (by unfold maxLen; omega) rfl) (show w4.heap.size ≤ wx.heap.size from BCUR.out.size))
                have HRO := hd (RO.below ((Below.refl _ wx).alloc (Nat.le_refl _) (.cells #[.int .i64 j] 2)))
                have HAL := hd (BCUR.out.alloc BCUR.out.size (.cells #[.int .i64 j] 2))
                go_wp2_with (at_builtin; go_must (refine wpList_app_all_int _ rfl _ _ rfl w4.heap.size 1 _ _ rfl HLIT.out _ m cO ((pre ++ [(i : Int)]).reverse) rfl HRO.out hm1 (by omega) HAL.out.size ?_); intro v' w7 ho7 hg7 hap hnz)
                obtain ⟨g', c', rfl, hg4', _⟩ := own_form ho7 (by omega)
                have HO7 := hd (show w7.ownsRow w4.heap.size 2 1 (.slice (some ⟨g', 0, none⟩) (m + 1) c') (m + 1) (((pre ++ [(i : Int)]) ++ [(j : Int)]).reverse.map vi) by
                  rw [show ((pre ++ [(i : Int)]) ++ [(j : Int)]).reverse = [(j : Int)] ++ (pre ++ [(i : Int)]).reverse from by simp, show m + 1 = 1 + m by omega, List.map_append]; exact ho7)
                have HB7 := hd (below_row hg7 HAL.out (fun k e => by cases e; exact BCUR.out.size))
                clear ho7 hg7 hap hnz HLIT HRO HAL RO
                go_roundw
                case rel => exact ⟨j, m + 1, g', c', pre ++ [(i : Int)], by have := HJI.out; omega, by first | rfl | go_num, by first | rfl | (rw [Nat.add_comm]; rfl) | simp [Nat.add_comm], hd (by rw [List.length_append]; have := HPL.out; simp; omega), hd (by have := HJI.out; have := HMI.out; omega), HW2, HO7, HB7⟩
                case measure => have := HJI.out; simp [intOf]; omega
        · have DE := hd (show pre ++ [(i : Int)] = wayL ts (eS ts n) n at0 by rw [← HW.out, WT.out i (fun h => by rw [← HX.out] at h; exact hx0 h.1)])
          obtain ⟨d, hdd⟩ : ∃ d, d = pre ++ [(i : Int)] := ⟨_, rfl⟩
          rw [← hdd] at DE HO
          have DL2 := hd (show d.length = m by rw [hdd, List.length_append]; exact HPL.out)
          have DL := hd (show m ≤ 10 by have := HMI.out; omega)
          clear hdd eb HX hx
          have BCUR := HB
          have OCUR := HO
          have HOz := hd (own_mono OCUR.out HW4.out)
          go_wp2
          go_ret2
          have hlen : (wayL ts (eS ts n) n at0).reverse.length = m := by rw [List.length_reverse, ← DE.out, DL2.out]
          exact ⟨gO, cO, by (rw [hlen]; rfl), by rw [hlen, ← DE.out]; exact HOz.out, below_tr BCUR.out HBW4.out⟩
end Go.Proofs.Ytaeajjfdljpioaa
