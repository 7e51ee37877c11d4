/- The longest way by the program: a contract. -/
import Derived.Test.YtaeajjfdljpioaaProN
namespace Go.Proofs.Ytaeajjfdljpioaa
open Go.RowKit Plain
set_option linter.unusedVariables false
set_option linter.unusedSimpArgs false
attribute [local go_sem ↓] Go.wp_at_zero Go.wp_at_succ
/-- a way that is told -/
def WayOut (d : List Int) (w : World) (r : Ending) (w' : World) : Prop := ∃ g cap, r = .returned (.tuple #[.slice (some ⟨g, 0, none⟩) d.length cap, .bool true]) ∧ w'.ownsRow w.heap.size 2 1 (.slice (some ⟨g, 0, none⟩) d.length cap) d.length (d.map vi) ∧ Below w.heap.size w w'
set_option maxHeartbeats 4000000 in
theorem LongestWay_impl (b o c : Nat) (ts : List TK) (n : Nat) (w : World) (h : TA w b o c ts n) (at0 : Nat) (ha : at0 < n) (he : eS ts n at0 + (tkAt ts at0).a = lastF ts (eS ts n) n) (hne : ∀ j, j < at0 → eS ts n j + (tkAt ts j).a ≠ lastF ts (eS ts n) n) :
    Calls Try.prog 11 #[.slice (some ⟨b, o, none⟩) n c] w (WayOut (wayL ts (eS ts n) n at0).reverse w) := by
  have HT := hd h
  have n1 := h.n1
  have n9 := h.n9
  have hnc := h.nc
  have HE := hd (fun w' hb => EarlyStarts_any b o c ts n w' (h.below hb))
  have HI := hd (fun g B1 B4 B5 W hW V hv => indexF_any b o c ts n g B1 B4 B5 (lastF ts (eS ts n) n) W hW V hv at0 ha he hne)
  have B0 := hd ((Below.refl _ w).alloc (Nat.le_refl _) (.cells #[.slice (some ⟨b, o, none⟩) n c] 25))
  have C0 := hd (show (w.alloc (.cells #[.slice (some ⟨b, o, none⟩) n c] 25)).cell? ⟨w.heap.size, 0, none⟩ = some (.slice (some ⟨b, o, none⟩) n c) from (World.cell?_alloc_new ..).trans rfl)
  clear h he hne
  go_enter Try.func11, Try.ntmps11
  go_wp2_with fail
  go_at_call 7
  refine (HE.out _ B0.out).mono ?_
  rintro e' w2 ⟨g, rfl, ho2, hb2⟩
  have HR2 := hd (rd_own ho2 n9)
  have C2 := hd (below_at hb2 C0.out)
  have HB2 := hd (below_tr hb2 B0.out)
  obtain ⟨e, heq⟩ : ∃ e, e = lastF ts (eS ts n) n := ⟨_, rfl⟩
  rw [← heq] at HI ⊢
  clear ho2 hb2 HE C0 B0 heq
  go_upto_region 4 with fail
  have hBW := ((Below.refl w2.heap.size w2).alloc (Nat.le_refl _) (.cells #[.slice (some ⟨g, 0, none⟩) n n] 27)).alloc (by simp) (.cells #[.int .i64 e] 2)
  have hLW : LwB ((w2.alloc (.cells #[.slice (some ⟨g, 0, none⟩) n n] 27)).alloc (.cells #[.int .i64 e] 2)) b o c ts n g w.heap.size w2.heap.size (w2.heap.size + 1) e :=
    ⟨HT.out.below (below_tr hBW HB2.out), by simp [go_sem], below_at hBW C2.out, by simp [go_sem], HR2.out.below hBW⟩
  have LW := hd hLW
  have BW := hd (below_tr hBW HB2.out)
  generalize (w2.alloc (.cells #[.slice (some ⟨g, 0, none⟩) n n] 27)).alloc (.cells #[.int .i64 e] 2) = W at *
  generalize hB4 : w2.heap.size = B4 at *
  obtain ⟨B1, hB1⟩ : ∃ B1, B1 = w.heap.size := ⟨_, rfl⟩
  rw [← hB1] at LW ⊢
  have c1W := LW.out.c1
  clear hBW hLW HR2 C2 HB2 hB4 hB1
  go_wp2_with fail
  go_at_call 29
  refine (counting_any n (by omega) W).mono ?_
  rintro e' w3 ⟨u, rfl, ho3, hb3⟩
  have LW3 := hd (LW.out.below hb3)
  have BW3 := hd (below_tr hb3 BW.out)
  have I := hd (HI.out g B1 B4 (B4 + 1) w3 LW3.out u (own_sl ho3 (by unfold maxLen; omega)))
  clear c1W LW BW ho3 hb3 HI
  go_wp2_with fail
  go_at_call 28
  refine I.out.mono ?_
  rintro e' w4 ⟨rfl, q4, hw4⟩
  have LW4 := hd (show LwB w4 b o c ts n g B1 B4 (B4 + 1) e by rw [hw4]; exact LW3.out.below (below_drewN (Below.refl _ _) q4))
  have HBW4 := hd (show Below w.heap.size w w4 by rw [hw4]; exact below_drewN BW3.out q4)
  have HW4 := hd (show w.heap.size ≤ w4.heap.size from HBW4.out.size)
  clear hw4 LW3 BW3 I
  have EB := hd (fun j => eS_bd HT.out.ok j)
  have WS := hd (fun i hi h1 h2 => way_step (ts := ts) (st := eS ts n) HT.out.ok (i := i) hi h1 h2)
  have WT := hd (fun i h0 => way_stop (ts := ts) (n := n) (st := eS ts n) (i := i) h0)
  have TL := hd (fun i hi h2 => tell_lt (ts := ts) (st := eS ts n) HT.out.ok (i := i) hi h2)
  have HT4 := hd (fun i => (show tell ts (eS ts n) i = tellF ts (eS ts n) i (tkAt ts i).bf.length from rfl))
  have HG4 := hd (show ∀ x : Nat, x = w4.heap.size → (w4.alloc (.cells #[.int .i64 at0] 2)).ownsRow w4.heap.size 2 1 (.slice (some ⟨w4.heap.size, 0, none⟩) 1 1) 1 (([] ++ [(at0 : Int)]).map vi) from fun x _ => World.ownsRow_lit (base := w4.heap.size) (e := 2) (size := 1) w4 #[.int .i64 at0] 1 (Nat.le_refl _) (by unfold maxLen; omega) rfl)
  go_wp2
  go_loopw [7, 8] (fun av ov wr => ∃ (i m gO cO : Nat) (pre : List Int), i < n ∧ av = .int .i64 i ∧ ov = .slice (some ⟨gO, 0, none⟩) m cO ∧ Hid (pre.length + 1 = m) ∧ Hid (m + i ≤ n + 1) ∧ Hid (pre ++ wayL ts (eS ts n) n i = wayL ts (eS ts n) n at0) ∧ Hid (wr.ownsRow w4.heap.size 2 1 (.slice (some ⟨gO, 0, none⟩) m cO) m ((pre ++ [(i : Int)]).map vi)) ∧ Hid (Below w4.heap.size w4 wr)) (fun av _ _ => (intOf av).toNat)
  case atStart => exact ⟨at0, 1, w4.heap.size, 1, [], ha, rfl, rfl, hd rfl, hd (by omega), hd rfl, hd (HG4.out _ rfl), hd ((Below.refl _ _).alloc (Nat.le_refl _) _)⟩
  case round =>
    clear HG4
    obtain ⟨i, m, gO, cO, pre, hi, rfl, rfl, HPL, HMI, HW, HO, HB⟩ := hrel
    have LWr := hd (LW4.out.below HB.out)
    have c4 := LWr.out.c4
    have c1 := LWr.out.c1
    have cE := rd_cell LWr.out.r hi
    have i2 : (i : Int) < (n : Int) := Int.ofNat_lt.2 hi
    have HGO := hd (show w4.heap.size ≤ gO from (World.ownsRow.lt HO.out gO rfl).1)
    have eb := EB.out i
    obtain ⟨x, hx⟩ : ∃ x, x = (earlyL ts n n).getD i 0 := ⟨_, rfl⟩
    rw [← hx] at cE
    have HX := hd (show x = eS ts n i from hx)
    by_cases hx0 : 0 < x
    · obtain ⟨Ab, cb, Al, cl, _, _, c2, c3, hb, hl, hcb, hcl⟩ := LWr.out.ta.cl i hi
      have OK := hd (HT.out.ok i hi)
      have hsh := OK.out.short
      have TF := hd (HT4.out i)
      have TZ := hd (show tellF ts (eS ts n) i 0 = -1 from rfl)
      have TS := hd (fun k => (show tellF ts (eS ts n) i (k + 1) = if tellF ts (eS ts n) i k < 0 ∧ eS ts n (bN (tkAt ts i) k) + (tkAt ts (bN (tkAt ts i) k)).a + (tkAt ts i).lg.getD k 0 = eS ts n i then (bN (tkAt ts i) k : Int) else tellF ts (eS ts n) i k from rfl))
      have TI := hd (fun k => tellF_is (ts := ts) (st := eS ts n) (i := i) k)
      generalize tellF ts (eS ts n) i = f at *
      generalize tkAt ts i = t at *
      obtain ⟨ml, hml⟩ : ∃ ml, ml = t.bf.length := ⟨_, rfl⟩
      have HM := hd hml
      rw [← hml] at c2 c3 hb hl hsh TF
      have RB := hd hb
      have RL := hd hl
      clear hml hb hl hcb hcl hx eb
      go_wp2
      clear c2
      go_loopw [9, 38] (fun fv iv wr2 => ∃ k q : Nat, k ≤ ml ∧ iv = .int .i64 k ∧ fv = .int .i64 (f k) ∧ wr2 = wr.drewN q) (fun _ iv _ => ml - (intOf iv).toNat)
      case atStart => exact ⟨0, 0, by omega, rfl, by rw [TZ.out], rfl⟩
      case round =>
        obtain ⟨k, q, hk, rfl, rfl, hwr⟩ := hrel
        subst hwr
        by_cases hkm : k < ml
        · have k2 : (k : Int) < (ml : Int) := Int.ofNat_lt.2 hkm
          have hkl : k < t.bf.length := by have := HM.out; omega
          obtain ⟨bb, ob, rfl, cb'⟩ := RB.out.int hkm
          obtain ⟨bl, ol, rfl, cl'⟩ := RL.out.int hkm
          rw [OK.out.cast hkl] at cb'
          have hj := OK.out.lt hkl
          have hjn : bN t k < n := by omega
          obtain ⟨_, _, _, _, ca, _⟩ := LWr.out.ta.cl (bN t k) hjn
          have cJ := rd_cell LWr.out.r hjn
          have a0 := (HT.out.ok (bN t k) hjn).a0
          have a1 := (HT.out.ok (bN t k) hjn).a1
          have ej := EB.out (bN t k)
          have lg := OK.out.l0 k hkl
          have ts1 := TS.out k
          have ti := TI.out k
          rw [← HX.out] at ts1
          rw [eS] at ej ts1
          rw [← HX.out] at ti
          generalize bN t k = j at *
          generalize (earlyL ts n n).getD j 0 = y at *
          generalize (tkAt ts j).a = ta at *
          generalize t.lg.getD k 0 = z at *
          have w1 : IntKind.i64.wrap (y + ta) = y + ta := IntWalk.i64_in _ (by omega)
          have w2' : IntKind.i64.wrap (y + ta + z) = y + ta + z := IntWalk.i64_in _ (by omega)
          have hj2 : (j : Int) < (n : Int) := Int.ofNat_lt.2 hjn
          obtain ⟨f0, hf0⟩ : ∃ f0, f0 = f k := ⟨_, rfl⟩
          rw [← hf0] at ts1 ⊢
          clear hf0 ti a0 a1 ej lg hkl hj
          by_cases hf : f0 < 0
          · have hf2 : decide (f0 < 0) = true := decide_eq_true hf
            by_cases he : y + ta + z = x
            · rw [if_pos ⟨hf, he⟩] at ts1
              have TS1 := hd ts1
              clear ts1 TS
              subst he
              go_wp2_with fail
              go_quiet (fail)
              clear cb' cl' ca cJ w1 w2'
              go_wp2
              go_roundw
              case rel => exact ⟨k + 1, q + nq, by omega, by go_num, by rw [TS1.out], by first | rfl | rw [World.drewN_drewN]⟩
              case measure => simp [intOf]; omega
            · rw [if_neg (fun h => he h.2)] at ts1
              have TS1 := hd ts1
              have he2 : (y + ta + z == x) = false := by simpa using he
              clear ts1 TS
              go_wp2_with fail
              go_quiet (fail)
              clear cb' cl' ca cJ w1 w2'
              go_wp2
              go_roundw
              case rel => exact ⟨k + 1, q + nq, by omega, by go_num, by rw [TS1.out], by first | rfl | rw [World.drewN_drewN]⟩
              case measure => simp [intOf]; omega
          · rw [if_neg (fun h => hf h.1)] at ts1
            have TS1 := hd ts1
            have hf2 : decide (f0 < 0) = false := decide_eq_false hf
            clear ts1 TS
            go_wp2_with fail
            go_quiet (fail)
            clear cb' cl' ca cJ w1 w2'
            go_wp2
            go_roundw
            case rel => exact ⟨k + 1, q + nq, by omega, by go_num, by rw [TS1.out], by first | rfl | rw [World.drewN_drewN]⟩
            case measure => simp [intOf]; omega
        · obtain rfl : ml = k := by omega
          rw [← TF.out]
          have TLi := TL.out i hi
          have WSi := WS.out i hi
          have WTi := WT.out i
          obtain ⟨tv, htv⟩ : ∃ tv, tv = tell ts (eS ts n) i := ⟨_, rfl⟩
          rw [← htv] at TLi WSi WTi ⊢
          by_cases ht : tv < 0
          · have DE := hd (show pre ++ [(i : Int)] = wayL ts (eS ts n) n at0 by rw [← HW.out, WTi (fun h => by omega)])
            obtain ⟨d, hdd⟩ : ∃ d, d = pre ++ [(i : Int)] := ⟨_, rfl⟩
            rw [← hdd] at DE HO
            have DL2 := hd (show d.length = m by rw [hdd, List.length_append]; exact HPL.out)
            have DL := hd (show m ≤ 10 by have := HMI.out; omega)
            have BCUR := hd (below_drewN HB.out q)
            have OCUR := hd (show (wr.drewN q).ownsRow w4.heap.size 2 1 (.slice (some ⟨gO, 0, none⟩) m cO) m (d.map vi) from HO.out)
            clear hdd c4 c1 HX htv TLi WSi WTi TF TS TI TZ HT4
            go_wp2_with fail
            go_at_call 31
            refine (reverse_any w4.heap.size gO m cO d (by have := DL.out; omega) _ OCUR.out).mono ?_
            rintro e' wz ⟨⟨v, rfl⟩, hoz, hgz⟩
            have HBz := hd (below_row hgz BCUR.out (fun k e => by cases e; exact HGO.out))
            have HOz := hd (own_mono hoz HW4.out)
            clear hoz hgz
            go_wp2
            go_ret2
            have hlen : (wayL ts (eS ts n) n at0).reverse.length = m := by rw [List.length_reverse, ← DE.out, DL2.out]
            exact ⟨gO, cO, by (rw [hlen]; rfl), by rw [hlen, ← DE.out]; exact HOz.out, below_tr HBz.out HBW4.out⟩
          · obtain ⟨j, hjv⟩ : ∃ j : Nat, tv = (j : Int) := ⟨tv.toNat, by omega⟩
            have hji : j < i := by have := TLi (by omega); omega
            have HW2 := hd (show (pre ++ [(i : Int)]) ++ wayL ts (eS ts n) n j = wayL ts (eS ts n) n at0 by
              rw [← HW.out, WSi (by rw [← HX.out]; exact hx0) (by omega), hjv, Int.toNat_natCast, List.append_assoc]; rfl)
            have OCUR := hd (show (wr.drewN q).ownsRow w4.heap.size 2 1 (.slice (some ⟨gO, 0, none⟩) m cO) m ((pre ++ [(i : Int)]).map vi) from HO.out)
            have BCUR := hd (below_drewN HB.out q)
            have hm9 : m ≤ 10 := by have := HMI.out; omega
            subst hjv
            have HJI := hd hji
            clear c4 c1 HX htv TLi WSi WTi TF TS TI TZ HT4 HO hji
            generalize wr.drewN q = wx at *
            go_wp2_with (at_builtin; go_must (refine wpList_app_int _ _ _ rfl _ _ rfl w4.heap.size m _ _ rfl OCUR.out rfl _ rfl (by simp) (by omega) BCUR.out.size ?_); intro v' w7 ho7 hg7 hap)
            obtain ⟨g', c', rfl, _, _⟩ := own_form ho7 (by omega)
            have HO7 := hd (show w7.ownsRow w4.heap.size 2 1 (.slice (some ⟨g', 0, none⟩) (m + 1) c') (m + 1) (((pre ++ [(i : Int)]) ++ [(j : Int)]).map vi) by rw [List.map_append]; exact ho7)
            have HB7 := hd (below_row hg7 BCUR.out (fun k e => by cases e; exact HGO.out))
            clear ho7 hg7 hap
            go_roundw
            case rel => exact ⟨j, m + 1, g', c', pre ++ [(i : Int)], by have := HJI.out; omega, by first | rfl | go_num, by first | rfl | simp, hd (by rw [List.length_append]; have := HPL.out; simp; omega), hd (by have := HJI.out; have := HMI.out; omega), HW2, HO7, HB7⟩
            case measure => have := HJI.out; simp [intOf]; omega
    · have DE := hd (show pre ++ [(i : Int)] = wayL ts (eS ts n) n at0 by rw [← HW.out, WT.out i (fun h => by rw [← HX.out] at h; exact hx0 h.1)])
      obtain ⟨d, hdd⟩ : ∃ d, d = pre ++ [(i : Int)] := ⟨_, rfl⟩
      rw [← hdd] at DE HO
      have DL2 := hd (show d.length = m by rw [hdd, List.length_append]; exact HPL.out)
      have DL := hd (show m ≤ 10 by have := HMI.out; omega)
      clear hdd c1 eb HX hx
      have BCUR := HB
      have OCUR := HO
      go_wp2_with fail
      go_at_call 31
      refine (reverse_any w4.heap.size gO m cO d (by have := DL.out; omega) wr OCUR.out).mono ?_
      rintro e' wz ⟨⟨v, rfl⟩, hoz, hgz⟩
      have HBz := hd (below_row hgz BCUR.out (fun k e => by cases e; exact HGO.out))
      have HOz := hd (own_mono hoz HW4.out)
      clear hoz hgz
      go_wp2
      go_ret2
      have hlen : (wayL ts (eS ts n) n at0).reverse.length = m := by rw [List.length_reverse, ← DE.out, DL2.out]
      exact ⟨gO, cO, by (rw [hlen]; rfl), by rw [hlen, ← DE.out]; exact HOz.out, below_tr HBz.out HBW4.out⟩
end Go.Proofs.Ytaeajjfdljpioaa
