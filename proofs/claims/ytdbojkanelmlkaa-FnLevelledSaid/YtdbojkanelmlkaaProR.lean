/- The reference's draw of valid tasks: the walk. -/
import Derived.Test.YtdbojkanelmlkaaProO
namespace Go.Proofs.Ytdbojkanelmlkaa
open Go.RowKit Plain
set_option linter.unusedVariables false
set_option linter.unusedSimpArgs false
attribute [local go_sem ↓] Go.wp_at_zero Go.wp_at_succ
/-- a task under way: the source, the task's box, its two lists -/
structure DrawI (w1 w : World) (g R : Nat) (cv : Value) (q1 q2 : Nat) (vb vl : Value) (mb ml : Nat) (bf lg : List Int) (A : Nat) (sd : Int) : Prop where
  sb : SrcBox w g cv A sd
  rb : SBox w R #[.int .i64 q1, .int .i64 q2, vb, vl] 34
  ob : w.ownsRow (R + 1) 2 1 vb mb (bf.map vi)
  ol : w.ownsRow (R + 1) 2 1 vl ml (lg.map vi)
  dj : Dj vb vl
  hx : w1.grownBy w (some g)
  hz : R + 1 ≤ w.heap.size
theorem own_neT {w : World} {R n e g : Nat} {V : Value} {xs : List Value} (h : w.ownsRow (R + 1) e 1 V n xs) (hg : g ≤ R) : V.ownBlock ≠ some g := fun e => by
  have := (World.ownsRow.lt h g e).1
  omega
theorem DrawI.moved {w1 w w' : World} {g R : Nat} {cv : Value} {q1 q2 : Nat} {vb vl : Value} {mb ml : Nat} {bf lg : List Int} {A A' : Nat} {sd sd' : Int} (h : DrawI w1 w g R cv q1 q2 vb vl mb ml bf lg A sd) (hgR : g < R) (hb : SrcBox w' g cv A' sd') (hg : w.grownBy w' (some g)) : DrawI w1 w' g R cv q1 q2 vb vl mb ml bf lg A' sd' :=
  ⟨hb, sbox_kept h.rb hg (by simp; omega), h.ob.kept hg (.inr (own_neT h.ob (by omega))), h.ol.kept hg (.inr (own_neT h.ol (by omega))), h.dj, h.hx.trans hg, Nat.le_trans h.hz hg.size⟩
theorem DrawI.appB {w1 w w6 : World} {g R : Nat} {cv : Value} {q1 q2 : Nat} {vb vl v' : Value} {mb ml : Nat} {bf lg : List Int} {A : Nat} {sd x : Int} (h : DrawI w1 w g R cv q1 q2 vb vl mb ml bf lg A sd) (hgR : g < R) (hw1 : w1.heap.size ≤ R)
    (ho6 : w6.ownsRow (R + 1) 2 1 v' (mb + 1) (bf.map vi ++ [.int .i64 x])) (hg6 : w.grownBy w6 vb.ownBlock) (hap : Apart w vb v') (hr6 : SBox w6 R #[.int .i64 q1, .int .i64 q2, vb, vl] 34) :
    DrawI w1 (w6.setCell ⟨R, 2, none⟩ v') g R cv q1 q2 v' vl (mb + 1) ml (bf ++ [x]) lg A sd := by
  have hs := grown_setCell w6 R 2 v'
  refine ⟨?_, heap_setCell_same w6 R 2 _ _ _ hr6, ?_, ?_, ?_, ?_, ?_⟩
  · exact sbox_kept (show SBox w6 g _ _ from sbox_kept (show SBox w g _ _ from h.sb) hg6 (fun e => own_neT h.ob (show g ≤ R by omega) e)) hs (by simp; omega)
  · rw [List.map_append]
    exact World.ownsRow.kept ho6 hs (.inr (own_neT ho6 (Nat.le_refl _)))
  · refine World.ownsRow.kept (h.ol.kept hg6 ?_) hs (.inr (own_neT h.ol (Nat.le_refl _)))
    rcases hl : vl.ownBlock with _ | k
    · exact .inl rfl
    · exact .inr (fun e => h.dj k e.symm hl)
  · exact dj_symm (hap vl (fun k hk => (World.ownsRow.lt h.ol k hk).2) (dj_symm h.dj))
  · exact grown_overP (grown_rowP h.hx hg6 (fun k e => by have := (World.ownsRow.lt h.ob k e).1; omega)) hs hw1
  · exact Nat.le_trans (Nat.le_trans h.hz hg6.size) hs.size
theorem DrawI.appL {w1 w w6 : World} {g R : Nat} {cv : Value} {q1 q2 : Nat} {vb vl v' : Value} {mb ml : Nat} {bf lg : List Int} {A : Nat} {sd x : Int} (h : DrawI w1 w g R cv q1 q2 vb vl mb ml bf lg A sd) (hgR : g < R) (hw1 : w1.heap.size ≤ R)
    (ho6 : w6.ownsRow (R + 1) 2 1 v' (ml + 1) (lg.map vi ++ [.int .i64 x])) (hg6 : w.grownBy w6 vl.ownBlock) (hap : Apart w vl v') (hr6 : SBox w6 R #[.int .i64 q1, .int .i64 q2, vb, vl] 34) :
    DrawI w1 (w6.setCell ⟨R, 3, none⟩ v') g R cv q1 q2 vb v' mb (ml + 1) bf (lg ++ [x]) A sd := by
  have hs := grown_setCell w6 R 3 v'
  refine ⟨?_, heap_setCell_same w6 R 3 _ _ _ hr6, ?_, ?_, ?_, ?_, ?_⟩
  · exact sbox_kept (show SBox w6 g _ _ from sbox_kept (show SBox w g _ _ from h.sb) hg6 (fun e => own_neT h.ol (show g ≤ R by omega) e)) hs (by simp; omega)
  · refine World.ownsRow.kept (h.ob.kept hg6 ?_) hs (.inr (own_neT h.ob (Nat.le_refl _)))
    rcases hl : vb.ownBlock with _ | k
    · exact .inl rfl
    · exact .inr (fun e => h.dj k hl e.symm)
  · rw [List.map_append]
    exact World.ownsRow.kept ho6 hs (.inr (own_neT ho6 (Nat.le_refl _)))
  · exact hap vb (fun k hk => (World.ownsRow.lt h.ob k hk).2) h.dj
  · exact grown_overP (grown_rowP h.hx hg6 (fun k e => by have := (World.ownsRow.lt h.ol k e).1; omega)) hs hw1
  · exact Nat.le_trans (Nat.le_trans h.hz hg6.size) hs.size
set_option maxHeartbeats 8000000 in
set_option maxRecDepth 100000 in
theorem drawTasks_any (g : Nat) (cv : Value) (xs : List Nat) (hx : ∀ x ∈ xs, x < 256) (w : World) (hs : Sl w 1 cv xs.length (bys xs)) (hne : NeSl cv g) (hb : SrcBox w g cv 0 0) (hgw : g < w.heap.size) (N : Nat) (e2 : N ≤ 9) :
    Calls Try.prog 16 #[.pointer (some ⟨g, 0, none⟩), .int .i64 N] w (TasksOut N g w) := by
  have PK := hd (fun (w' : World) (A : Nat) (sd : Int) (n : Nat) (hg : w.grownBy w' (some g)) (hA : A ≤ 1000) (h0 : 0 ≤ sd) (h1 : sd < 18446744073709551616) (hb : SrcBox w' g cv A sd) (n1 : 1 ≤ n) (n2 : n ≤ 200) =>
    pick_any g cv xs hx A (by omega) sd h0 h1 w' (sl_grownP hs hne hg) hne hb n n1 n2)
  have ON := hd (fun (w' : World) (A : Nat) (sd : Int) (n : Nat) (hg : w.grownBy w' (some g)) (hA : A ≤ 1000) (h0 : 0 ≤ sd) (h1 : sd < 18446744073709551616) (hb : SrcBox w' g cv A sd) (n1 : 1 ≤ n) (n2 : n ≤ 200) =>
    oneP_any g cv xs hx A (by omega) sd h0 h1 w' (sl_grownP hs hne hg) hne hb n n1 n2)
  have HB := hd hb
  clear hs hb hne hx
  go_enter Try.func16, Try.ntmps16
  have HO0 := hd (show (w.alloc (.cells #[] 34)).ownsRow w.heap.size 34 4 (.slice (some ⟨w.heap.size, 0, none⟩) 0 0) 0 (tisCells []) by
    have ho1 := World.ownsRow_made (base := w.heap.size) (size := 4) (e := 34) w #[] 0 (Nat.le_refl _) (by unfold maxLen; omega) rfl
    simpa [tisCells] using ho1)
  have HB0 := hd (sbox_below HB.out ((Below.refl _ w).alloc (Nat.le_refl _) (.cells #[] 34)))
  have HG0 := hd (below_all ((Below.refl _ w).alloc (Nat.le_refl _) (.cells #[] 34)) (some g))
  go_upto_region 3 with fail
  go_loopw [5, 6] (fun out nn wr => ∃ (l : List TI) (A : Nat) (sd : Int), l.length ≤ N ∧ nn = .int .i64 l.length ∧ Hid (∀ i p, l[i]? = some p → TDrawn i p.t ∧ TDone wr w.heap.size g out p) ∧ A ≤ 40 * l.length ∧ 0 ≤ sd ∧ sd < 18446744073709551616 ∧ Hid (SrcBox wr g cv A sd) ∧ Hid (wr.ownsRow w.heap.size 34 4 out l.length (tisCells l)) ∧ Hid (w.grownBy wr (some g))) (fun _ nn _ => N - (intOf nn).toNat)
  case atStart =>
    exact ⟨[], 0, 0, by simp, rfl, hd (fun i p h => by simp at h), by simp, by omega, by omega, HB0, HO0, HG0⟩
  case round =>
    clear HB0 HO0 HG0
    obtain ⟨l, A, sd, hlN, rfl, HLk, hA, s0, s1, HB, HO, HG⟩ := hrel
    generalize hin : l.length = i at *
    have HIN := hd hin
    clear hin
    by_cases hlt : i < N
    · have i2 : (i : Int) < (N : Int) := Int.ofNat_lt.2 hlt
      go_wp2_with fail
      go_at_call 36
      refine (PK.out wr A sd 7 HG.out (by omega) s0 s1 HB.out (by omega) (by omega)).mono ?_
      rintro e w1 ⟨q1, A1, sd1, hq1, rfl, b1, b2, b3, b4, b5⟩
      have HB1 := hd b1
      have HG1 := hd (HG.out.trans b5)
      have HLt0 := World.ownsRow.lt HO.out
      have HO1 := hd (HO.out.kept b5 (.inr (fun e => by have := (HLt0 g e).1; omega)))
      have HL1 := hd (fun j p (h : l[j]? = some p) => And.intro (HLk.out j p h).1 ((HLk.out j p h).2.grown b5 (.inl rfl)))
      clear b1 b5 HB HG HO HLk HLt0
      go_upto_region 6 with fail
      have HR2 := hd (show SBox (w1.alloc (.cells #[.int .i64 q1, .int .i64 0, .slice none 0 0, .slice none 0 0] 34)) w1.heap.size #[.int .i64 q1, .int .i64 0, .slice none 0 0, .slice none 0 0] 34 by
        show (World.alloc _ _).heap[_]? = _
        rw [heap_alloc_get, if_pos rfl])
      have HB2 := hd (sbox_below HB1.out ((Below.refl _ _).alloc (Nat.le_refl _) (.cells #[.int .i64 q1, .int .i64 0, .slice none 0 0, .slice none 0 0] 34)))
      have HX2 := hd (below_all ((Below.refl _ w1).alloc (Nat.le_refl _) (.cells #[.int .i64 q1, .int .i64 0, .slice none 0 0, .slice none 0 0] 34)) (some g))
      have HLt := hd (World.ownsRow.lt HO1.out)
      have HRw := hd (show w.heap.size ≤ w1.heap.size from HG1.out.size)
      have HSZ := hd (show w1.heap.size + 1 ≤ (w1.alloc (.cells #[.int .i64 q1, .int .i64 0, .slice none 0 0, .slice none 0 0] 34)).heap.size by simp)
      generalize World.alloc w1 (.cells #[.int .i64 q1, .int .i64 0, .slice none 0 0, .slice none 0 0] 34) = W2 at *
      obtain ⟨R, hR⟩ : ∃ R, R = w1.heap.size := ⟨_, rfl⟩
      have HRR := hd hR
      rw [← hR] at HR2 HSZ ⊢
      have hRg : R ≠ g := by have := HRw.out; omega
      have HG2 := hd (HG1.out.trans HX2.out)
      clear HB1 hR
      go_wp2_with fail
      go_at_call 36
      refine (PK.out W2 A1 sd1 4 HG2.out (by omega) b3 b4 HB2.out (by omega) (by omega)).mono ?_
      rintro e w3 ⟨q2, A2, sd2, hq2, rfl, b1, b2', b3', b4', b5⟩
      have HB3 := hd b1
      have HR3 := hd (sbox_kept (show SBox W2 R _ _ from HR2.out) b5 (by simp; omega))
      have HX3 := hd (HX2.out.trans b5)
      have HSZ3 := hd (show R + 1 ≤ w3.heap.size from Nat.le_trans HSZ.out b5.size)
      clear b1 b5 HB2 HR2 HX2 HG2
      obtain ⟨d0, d1, d2, d3⟩ := sbox4P HR3.out
      have df1 := sbox_free HR3.out 1
      go_upto_region 7 with fail
      have HR4 := hd (show SBox (w3.setCell ⟨R, 1, none⟩ (.int .i64 q2)) R #[.int .i64 q1, .int .i64 q2, .slice none 0 0, .slice none 0 0] 34 from heap_setCell_same _ R 1 _ _ _ HR3.out)
      have hs4 := grown_setCell w3 R 1 (.int .i64 q2)
      have HB4 := hd (sbox_kept (show SBox w3 g _ _ from HB3.out) hs4 (by simp; omega))
      have HX4 := hd (show w1.grownBy (w3.setCell ⟨R, 1, none⟩ (.int .i64 q2)) (some g) from grown_overP HX3.out hs4 (by rw [HRR.out]; exact Nat.le_refl _))
      have HSZ4 := hd (show R + 1 ≤ (w3.setCell ⟨R, 1, none⟩ (.int .i64 q2)).heap.size from Nat.le_trans HSZ3.out hs4.size)
      generalize World.setCell w3 _ _ = W4 at *
      clear hs4 HB3 HR3 HX3 d0 d1 d2 d3 df1 HSZ HSZ3
      go_wp2
      have HD4 := hd (show DrawI w1 W4 g R cv q1 q2 (.slice none 0 0) (.slice none 0 0) 0 0 [] [] A2 sd2 from ⟨HB4.out, HR4.out, World.ownsRow_nil .., World.ownsRow_nil .., (fun k e => by cases e), HX4.out, HSZ4.out⟩)
      have hgR : g < R := by have := HRw.out; have := HRR.out; omega
      have hw1R : w1.heap.size ≤ R := by have := HRR.out; omega
      go_loopw [8] (fun kv wr => ∃ (k m A : Nat) (sd : Int) (bf lg : List Int) (vb vl : Value), k ≤ i ∧ kv = .int .i64 k ∧ m ≤ k ∧ Hid (bf.length = m) ∧ Hid (PreOk k bf lg) ∧ A ≤ A2 + 3 * k ∧ 0 ≤ sd ∧ sd < 18446744073709551616 ∧ Hid (DrawI w1 wr g R cv q1 q2 vb vl m m bf lg A sd)) (fun kv _ => i - (intOf kv).toNat)
      case atStart => exact ⟨0, 0, A2, sd2, [], [], .slice none 0 0, .slice none 0 0, by omega, rfl, by omega, hd rfl, hd PreOk.nil, by omega, b3', b4', HD4⟩
      case round =>
        clear HB4 HR4 HX4 HSZ4 b3' b4' HD4
        obtain ⟨k, m, A3, sd3, bf, lg, vb, vl, hk, rfl, hmk, HBL, HP, hA3, s30, s31, HI⟩ := hrel
        by_cases hki : k < i
        · have k2 : (k : Int) < (i : Int) := Int.ofNat_lt.2 hki
          go_wp2_with fail
          go_at_call 37
          refine (ON.out wr A3 sd3 3 (HG1.out.trans HI.out.hx) (by omega) s30 s31 HI.out.sb (by omega) (by omega)).mono ?_
          rintro e w5 ⟨o1, A5, sd5, rfl, b1, c2, c3, c4, b5⟩
          have HI5 := hd (HI.out.moved hgR b1 b5)
          clear b1 b5 HI
          cases o1
          · go_wp2
            go_roundw
            case rel => exact ⟨k + 1, m, A5, sd5, bf, lg, vb, vl, by omega, by go_num, by omega, HBL, hd HP.out.skip, by omega, c3, c4, HI5⟩
            case measure => simp [intOf]; omega
          · obtain ⟨d0, d1, d2, d3⟩ := sbox4P HI5.out.rb
            go_upto_region 13 with (at_builtin; go_must (refine wpList_app_int _ _ _ rfl _ _ rfl (R + 1) m _ _ rfl HI5.out.ob rfl _ rfl (by simp) (by omega) HI5.out.hz ?_); intro v' w6 ho6 hg6 hap; obtain ⟨g6, c6, rfl, _, _⟩ := own_form ho6 (by omega); have HAP := hd hap; have HO6 := hd ho6; have HG6 := hd hg6; have HR6 := hd (sbox_kept (show SBox w5 R _ _ from HI5.out.rb) hg6 (fun e => own_neT HI5.out.ob (Nat.le_refl _) e)); obtain ⟨x0, x1', x2, x3⟩ := sbox4P HR6.out; have df2 := sbox_free HR6.out 2)
            have HI7 := hd (HI5.out.appB hgR hw1R HO6.out HG6.out HAP.out HR6.out)
            generalize World.setCell w6 _ _ = W7 at *
            clear HO6 HG6 HAP HR6 HI5
            try clear ho6
            try clear hg6
            try clear hap
            try clear x0 x1' x2 x3 df2
            try clear d0 d1 d2 d3
            go_wp2_with fail
            go_at_call 37
            refine (ON.out W7 A5 sd5 4 (HG1.out.trans HI7.out.hx) (by omega) c3 c4 HI7.out.sb (by omega) (by omega)).mono ?_
            rintro e w8 ⟨o2, A8, sd8, rfl, b1, c2', c3', c4', b5⟩
            have HI8 := hd (HI7.out.moved hgR b1 b5)
            clear b1 b5 HI7
            cases o2
            focus
              go_upto_region 15 with fail
              have hyb : -3 ≤ (0 : Int) ∧ (0 : Int) ≤ 3 := by omega
              obtain ⟨w9, hw9⟩ : ∃ w9, w9 = w8 := ⟨_, rfl⟩
              subst hw9
              obtain ⟨A9, hA9⟩ : ∃ A9, A9 = A8 := ⟨_, rfl⟩
              subst hA9
              obtain ⟨sd9, hsd9⟩ : ∃ sd9, sd9 = sd8 := ⟨_, rfl⟩
              subst hsd9
              have HI9 := hd HI8.out
              have hA9 : A9 ≤ A2 + 3 * (k + 1) := by omega
              have z0 := c3'
              have z1 := c4'
              clear HI8 c2' c3' c4'
            rotate_left
            focus
              go_wp2_with fail
              go_at_call 36
              refine (PK.out w8 A8 sd8 7 (HG1.out.trans HI8.out.hx) (by omega) c3' c4' HI8.out.sb (by omega) (by omega)).mono ?_
              rintro e w9 ⟨q9, A9, sd9, hq9, rfl, b1, e2', z0, z1, b5⟩
              have HI9 := hd (HI8.out.moved hgR b1 b5)
              obtain ⟨y, hy⟩ : ∃ y : Int, y = (q9 : Int) - 3 := ⟨_, rfl⟩
              have hyb : -3 ≤ y ∧ y ≤ 3 := by omega
              have hwy : IntKind.i64.wrap ((q9 : Int) - 3) = y := by rw [IntWalk.i64_in _ (by omega)]; exact hy.symm
              have hA9 : A9 ≤ A2 + 3 * (k + 1) := by omega
              clear b1 b5 HI8 hy c2' c3' c4'
              go_upto_region 15 with fail
              clear hwy
            all_goals
              obtain ⟨d0, d1, d2, d3⟩ := sbox4P HI9.out.rb
              go_wp2_with (at_builtin; go_must (refine wpList_app_int _ _ _ rfl _ _ rfl (R + 1) m _ _ rfl HI9.out.ol rfl _ rfl (by simp) (by omega) HI9.out.hz ?_); intro v9 w10 ho10 hg10 hap9; obtain ⟨g10, c10, rfl, _, _⟩ := own_form ho10 (by omega); have HAP9 := hd hap9; have HO10 := hd ho10; have HG10 := hd hg10; have HR10 := hd (sbox_kept (show SBox w9 R _ _ from HI9.out.rb) hg10 (fun e => own_neT HI9.out.ol (Nat.le_refl _) e)); obtain ⟨x0, x1', x2, x3⟩ := sbox4P HR10.out; have df3 := sbox_free HR10.out 3)
              have HI11 := hd (HI9.out.appL hgR hw1R HO10.out HG10.out HAP9.out HR10.out)
              clear HO10 HG10 HAP9 HR10 HI9
              try clear ho10
              try clear hg10
              try clear hap9
              try clear x0 x1' x2 x3 df3
              try clear d0 d1 d2 d3
              go_roundw
              case rel => exact ⟨k + 1, m + 1, A9, sd9, bf ++ [(k : Int)], lg ++ [_], _, _, by omega, by go_num, by omega, hd (by rw [List.length_append, HBL.out]; rfl), hd (HP.out.app hyb.1 hyb.2), hA9, z0, z1, HI11⟩
              case measure => simp [intOf]; omega
        · obtain rfl : i = k := by omega
          have HW1 := hd (own_below HI.out.ob (Below.refl _ _))
          obtain ⟨d0, d1, d2, d3⟩ := sbox4P HI.out.rb
          have hov := World.ownsRow.lt HO1.out
          have ob1 := own_one HI.out.ob
          have ol1 := own_one HI.out.ol
          have HO9 := hd (HO1.out.kept HI.out.hx (.inr (fun e => by have := (HLt.out g e).1; omega)))
          have HL9 := hd (fun j p (h : l[j]? = some p) => And.intro (HL1.out j p h).1 ((HL1.out j p h).2.grown HI.out.hx (.inl rfl)))
          have HG9 := hd (HG1.out.trans HI.out.hx)
          have TD := hd (HP.out.task hq1 hq2)
          have hlt9 := HLt.out
          have hbw : w.heap.size ≤ wr.heap.size := HG9.out.size
          have neO : ∀ (V : Value) (xs : List Value) (n : Nat), wr.ownsRow (R + 1) 2 1 V n xs → ∀ k, V.ownBlock = some k → u5.ownBlock ≠ some k := fun V xs n h k hk e => by
            have h1 := (World.ownsRow.lt h k hk).1
            have h2 := (hlt9 k e).2
            have := HRR.out; omega
          have hN9 : N ≤ 9 := e2
          go_wp2_with (at_builtin; go_must (refine wpList_app_taskP _ _ (.int .i64 q1) (.int .i64 q2) vb vl (by intro u hu; simp at hu; rcases hu with rfl | rfl | rfl | rfl; rfl; rfl; exact ob1; exact ol1) rfl _ _ rfl w.heap.size i _ _ rfl HO9.out _ rfl rfl (by omega) hbw ?_); intro v' w9 ho9 hg9 hap)
          have HAP := hd hap
          have HO10 := hd ho9
          have HG10 := hd hg9
          clear ho9 hg9 hap
          go_roundw
          case rel =>
            refine ⟨l ++ [⟨⟨q1, q2, bf, lg⟩, vb, vl⟩], A3, sd3, by rw [List.length_append, HIN.out]; simp; omega, by rw [List.length_append, HIN.out]; go_num, hd ?_, by rw [List.length_append, HIN.out]; simp; omega, s30, s31, hd ?_, hd ?_, hd ?_⟩
            · intro x p hp
              have djB : Dj vb u5 := fun k hk => neO _ _ _ HI.out.ob k hk
              have djL : Dj vl u5 := fun k hk => neO _ _ _ HI.out.ol k hk
              rw [List.getElem?_append] at hp
              split at hp
              · have t9 := HL9.out x p hp
                have t10 := t9.2.grown HG10.out (.inr rfl)
                refine ⟨t9.1, t10.turn w9 (w0 := wr) (fun k hk => ?_) HAP.out⟩
                rcases hk with hk | hk
                · exact (World.ownsRow.lt t9.2.ob k hk).2
                · exact (World.ownsRow.lt t9.2.ol k hk).2
              · rename_i hx2
                have hxi : x = i := by
                  rcases Nat.lt_or_ge (x - l.length) 1 with h1 | h1
                  · have := HIN.out; omega
                  · rw [List.getElem?_eq_none (by simpa using h1)] at hp; cases hp
                subst hxi
                rw [HIN.out, Nat.sub_self] at hp
                obtain rfl : _ = p := Option.some.inj hp
                refine ⟨TD.out, ⟨?_, ?_, ?_, ?_, own_neT HI.out.ob (by omega), own_neT HI.out.ol (by omega)⟩⟩
                · show w9.ownsRow _ _ _ vb bf.length _
                  rw [HBL.out]
                  refine own_mono (HI.out.ob.kept HG10.out ?_) (by have := HRw.out; have := HRR.out; omega)
                  rcases hb : vb.ownBlock with _ | k
                  · exact .inl rfl
                  · exact .inr (fun e => neO _ _ _ HI.out.ob k hb e.symm)
                · show w9.ownsRow _ _ _ vl bf.length _
                  rw [HBL.out]
                  refine own_mono (HI.out.ol.kept HG10.out ?_) (by have := HRw.out; have := HRR.out; omega)
                  rcases hb : vl.ownBlock with _ | k
                  · exact .inl rfl
                  · exact .inr (fun e => neO _ _ _ HI.out.ol k hb e.symm)
                · exact HAP.out vb (fun k hk => (World.ownsRow.lt HI.out.ob k hk).2) djB
                · exact HAP.out vl (fun k hk => (World.ownsRow.lt HI.out.ol k hk).2) djL
            · exact sbox_kept (show SBox wr g _ _ from HI.out.sb) HG10.out (fun e => by have := (HLt.out g e).1; omega)
            · rw [List.length_append, HIN.out, show tisCells (l ++ [⟨⟨q1, q2, bf, lg⟩, vb, vl⟩]) = tisCells l ++ [.int .i64 q1, .int .i64 q2, vb, vl] by simp [tisCells, tiCells]]
              exact HO10.out
            · exact grown_rowP HG9.out HG10.out (fun k e => (HLt.out k e).1)
          case measure => simp [intOf]; omega
    · obtain rfl : i = N := by omega
      go_wp2
      go_ret
      exact ⟨l, _, rfl, HIN.out, HLk.out, HO.out, HG.out⟩
end Go.Proofs.Ytdbojkanelmlkaa
