/- Shifts listed behind a text, the reference's side. -/
import Derived.Test.YtmjdhignhdphpaaDoorProg
import Derived.Test.YtmjdhignhdphpaaDoorListK
import Derived.Test.YtmjdhignhdphpaaDoorNextL
namespace Go.Proofs.YtmjdhignhdphpaaDoor
open Go.RowKit Plain
set_option linter.unusedVariables false
set_option linter.unusedSimpArgs false
attribute [local go_sem ↓] Go.wp_at_zero Go.wp_at_succ

set_option maxHeartbeats 4000000 in
set_option maxRecDepth 100000 in
theorem l06List_after (af : ByteArray) (g o : Nat) (R : SR) (haf : (af.size : Int) = R.slots) (B cn : Nat) (hgB : g < B) (b1 : R.slots ≤ 24) (b2 : 0 ≤ R.least ∧ R.least ≤ 24) (b3 : 0 ≤ R.most ∧ R.most ≤ 24) (b4 : 1 ≤ R.row ∧ R.row ≤ 24) (b5 : 1 ≤ R.pause ∧ R.pause ≤ 24) (hcn : cn ≤ 64) (m : Nat) :
    ∀ (t : ByteArray) (a b c : Int) (v : Value) (out : List ByteArray) (w : World), SRat w g o R → okR (limS R) ⟨a, b, c⟩ → c + m ≤ 24 → (t.size : Int) + m = R.slots → 1 ≤ R.slots → out.length ≤ cn → B ≤ w.heap.size → w.ownsRow B 9 1 v out.length (strs out) →
    Calls Tryd.prog 14 #[.pointer (some ⟨g, o, none⟩), .string t, .agg #[.int .i64 a, .int .i64 b, .int .i64 c], .string af, .int .i64 cn, v] w fun e w' => ∃ u, e = .returned u ∧ w'.ownsRow B 9 1 u (fillS cn out ((listS (limS R) m ((⟨a, b, c⟩ : ShiftPt).cut (limS R)) t).filter (gtB af))).length (strs (fillS cn out ((listS (limS R) m ((⟨a, b, c⟩ : ShiftPt).cut (limS R)) t).filter (gtB af)))) ∧ Grew w w' none v ∧ Later w v u := by
  induction m with
  | zero =>
    intro t a b c v out w hr hok hc ht hS hl hB ho
    have HOK := hd hok
    have HO := hd ho
    have HBB := hd hB
    obtain ⟨A, cap, rfl, hcap, _, hA⟩ := own_rd ho (by unfold maxLen; omega)
    have e0 := fun X => Lib.cell?_alloc_some X hr.c0
    have e1 := fun X => Lib.cell?_alloc_some X hr.c1
    have HR := hd hr
    have htz : IntKind.i64.wrap (R.slots - (t.size : Int)) = ((0 : Nat) : Int) := by rw [IntWalk.i64_in _ (by omega)]; omega
    have HTZ := hd ht
    have ts : 1 ≤ t.size := by omega
    have ts2 : t.size ≤ 24 := by omega
    clear hr hok ho hB hA ht
    by_cases hfull : out.length = cn
    · have E := hd (fun l => fill_full (l := l) hfull)
      subst hfull
      go_enter Tryd.func14, Tryd.ntmps14
      go_wp2
      go_quiet (fail)
      go_wp2
      go_ret
      rw [E.out]
      refine ⟨_, rfl, own_drwB (HO.out.alloc _) _, Grew.of_below ?_ _ _, Later.refl _ _⟩
      exact below_drewN (by go_grown) _
    · have hlt : out.length < cn := by omega
      have RC := hd (fun w' (h : SRat w' g o R) => reach_any g o R w' h b3 b4 b5 a b c HOK.out 0 (by omega) (by omega))
      rw [show reachS (limS R) 0 ⟨a, b, c⟩ = 0 from rfl] at RC
      have a0 : 0 ≤ a := HOK.out.w0
      have a1 : a ≤ R.most := HOK.out.w1
      have wr : IntKind.i64.wrap a = a := IntWalk.i64_in _ (by omega)
      have LS := hd (show listS (limS R) 0 ((⟨a, b, c⟩ : ShiftPt).cut (limS R)) t = if R.least ≤ a then [t] else [] from rfl)
      obtain ⟨n, hn⟩ : ∃ n, n = out.length := ⟨_, rfl⟩
      have HN := hd hn
      rw [← hn] at hlt hfull HO hcap hl ⊢
      clear hn
      have q5 : decide (cn ≤ n) = false := by rw [decide_eq_false_iff_not]; omega
      obtain ⟨ls, hls⟩ : ∃ ls, ls = R.least := ⟨_, rfl⟩
      have e2 := e1 (.cells #[.int .i64 a, .int .i64 b, .int .i64 c] 41)
      rw [← hls] at e2 LS
      clear hls e1
      have hbW0 := (Below.refl w.heap.size w).alloc (Nat.le_refl _) (.cells #[.int .i64 a, .int .i64 b, .int .i64 c] 41)
      have HRW := hd (HR.out.below hbW0)
      have hxW : (w.alloc (.cells #[.int .i64 a, .int .i64 b, .int .i64 c] 41)).heap[w.heap.size]? = some (.cells #[.int .i64 a, .int .i64 b, .int .i64 c] 41 (0, 0)) := by rw [heap_alloc_get, if_pos rfl]
      go_enter Tryd.func14, Tryd.ntmps14
      go_wp2
      obtain ⟨W, hW⟩ : ∃ W, W = w.alloc (.cells #[.int .i64 a, .int .i64 b, .int .i64 c] 41) := ⟨_, rfl⟩
      rw [← hW] at HRW hbW0 e2 hxW
      rw [← hW]
      have HbW := hd hbW0
      have HxW := hd hxW
      clear hW e0 hbW0
      obtain ⟨k0, k1, k2⟩ := cbox3 hxW
      clear hxW
      obtain ⟨gb, hgb⟩ : ∃ gb, gb = w.heap.size := ⟨_, rfl⟩
      rw [← hgb] at k0 k1 k2 HxW
      rw [← hgb]
      clear hgb
      have hbw0 : Below W.heap.size W W.drew := (Below.refl _ _).drew
      go_region_held3 (fun w' => (w'.cell? ⟨gb, 0, none⟩ = some (.int .i64 a) ∧ w'.cell? ⟨gb, 1, none⟩ = some (.int .i64 b) ∧ w'.cell? ⟨gb, 2, none⟩ = some (.int .i64 c)) ∧ w'.cell? ⟨g, o + 1, none⟩ = some (.int .i64 ls) ∧ Below W.heap.size W w')
        (first | go_keep | exact keepL h (by assumption))
        (first | (go_at_call 23; refine (RC.out _ (HRW.out.below (‹_ ∧ _ ∧ Below W.heap.size W _›).2.2)).mono ?_; rintro e w' ⟨rfl, h⟩))
      rename _ ∧ _ ∧ Below W.heap.size W _ => hH
      rename World => w2
      have HB2 := hd (below_tr hH.2.2 HbW.out)
      have x0 := hH.1.1
      have x1 := hH.2.1
      clear hH k0 k1 k2 e2 hbw0
      by_cases hle : a < ls
      · have E := hd (show (listS (limS R) 0 ((⟨a, b, c⟩ : ShiftPt).cut (limS R)) t).filter (gtB af) = [] by rw [LS.out, if_neg (by omega)]; rfl)
        go_wp2
        go_ret
        rw [E.out, fill_nil (by rw [← HN.out]; exact Nat.le_of_lt hlt), ← HN.out]
        exact ⟨_, rfl, own_below HO.out HB2.out, Grew.of_below HB2.out _ _, Later.refl _ _⟩
      · have hpos : (0 : Int) < (af.size : Int) := by omega
        have hfit : (t.size : Int) ≤ (af.size : Int) := by have := HTZ.out; omega
        have hfit0 : (0 : Int) ≤ (t.size : Int) := by omega
        have CL := hd (fun h => cut_less (L := limS R) (m := 0) (s := (⟨a, b, c⟩ : ShiftPt).cut (limS R)) (q := t) (t := af) (by have := HTZ.out; omega) h)
        cases hbl : Go.Op.bytesLess t.toList (af.extract 0 t.size).toList with
        | true =>
          have E := hd (CL.out hbl)
          go_wp2
          go_ret
          rw [E.out, fill_nil (by rw [← HN.out]; exact Nat.le_of_lt hlt), ← HN.out]
          exact ⟨_, rfl, own_below HO.out HB2.out, Grew.of_below HB2.out _ _, Later.refl _ _⟩
        | false =>
          have q6 : decide (ls ≤ a) = true := by rw [decide_eq_true_iff]; omega
          have LSF := hd (show (listS (limS R) 0 ((⟨a, b, c⟩ : ShiftPt).cut (limS R)) t).filter (gtB af) = if gtB af t = true then [t] else [] by rw [LS.out, if_pos (by omega), List.filter_cons]; rfl)
          have GT := hd (show gtB af t = !(Go.Op.bytesLess t.toList af.toList || t.toList == af.toList) from rfl)
          cases l1 : Go.Op.bytesLess t.toList af.toList with
          | true =>
            have E := hd (show (listS (limS R) 0 ((⟨a, b, c⟩ : ShiftPt).cut (limS R)) t).filter (gtB af) = [] by rw [LSF.out, GT.out, l1]; rfl)
            go_wp2
            go_quiet (fail)
            go_wp2
            go_ret
            rw [E.out, fill_nil (by rw [← HN.out]; exact Nat.le_of_lt hlt), ← HN.out]
            exact ⟨_, rfl, own_drwB (own_below HO.out HB2.out) _, Grew.of_below (below_drewN HB2.out _) _ _, Later.refl _ _⟩
          | false =>
            cases l2 : (t.toList == af.toList) with
            | true =>
              have E := hd (show (listS (limS R) 0 ((⟨a, b, c⟩ : ShiftPt).cut (limS R)) t).filter (gtB af) = [] by rw [LSF.out, GT.out, l1, l2]; rfl)
              go_wp2
              go_quiet (fail)
              go_wp2
              go_ret
              rw [E.out, fill_nil (by rw [← HN.out]; exact Nat.le_of_lt hlt), ← HN.out]
              exact ⟨_, rfl, own_drwB (own_below HO.out HB2.out) _, Grew.of_below (below_drewN HB2.out _) _ _, Later.refl _ _⟩
            | false =>
              have E := hd (show (listS (limS R) 0 ((⟨a, b, c⟩ : ShiftPt).cut (limS R)) t).filter (gtB af) = [t] by rw [LSF.out, GT.out, l1, l2]; rfl)
              go_wp2
              go_quiet (fail)
              have HO2 := hd (own_drwB (own_below HO.out HB2.out) nq)
              have HB3 := hd (below_drewN HB2.out nq)
              go_wp2_with (at_builtin; go_must (refine wpList_app_string _ _ _ rfl _ _ rfl B n _ _ rfl HO2.out rfl _ rfl rfl (by omega) (Nat.le_trans HBB.out HB3.out.size) ?_); intro v' w4 ho4 hg4 hap)
              go_ret
              rw [E.out, fill_one (by rw [← HN.out]; exact hlt)]
              refine ⟨_, rfl, ?_, (Grew.of_below HB3.out none _).trans (Grew.of_row hg4 none) (Later.refl _ _), fun k hk => ?_⟩
              · rw [List.length_append, ← HN.out, ← strs_app]; exact ho4
              · exact later_of hap HB3.out.size k hk
  | succ m ih =>
    intro t a b c v out w hr hok hc ht hS hl hB ho
    have IH := hd ih
    have HOK := hd hok
    have HO := hd ho
    have HBB := hd hB
    obtain ⟨A, cap, rfl, hcap, _, hA⟩ := own_rd ho (by unfold maxLen; omega)
    have hvb := hd (show ∀ k, (Value.slice A out.length cap).ownBlock = some k → B ≤ k ∧ k < w.heap.size from fun k hk => (World.ownsRow.lt ho k hk))
    have hgw := hd (show g < w.heap.size from block_lt_of_cell hr.c0)
    have e0 := fun X => Lib.cell?_alloc_some X hr.c0
    have e1 := fun X => Lib.cell?_alloc_some X hr.c1
    have HR := hd hr
    have htz : IntKind.i64.wrap (R.slots - (t.size : Int)) = ((m + 1 : Nat) : Int) := by rw [IntWalk.i64_in _ (by omega)]; omega
    have HTZ := hd ht
    have m24 : m + 1 ≤ 24 := by omega
    have ts : t.size ≤ 24 := by omega
    clear ih hr hok ho hB hA ht
    by_cases hfull : out.length = cn
    · have E := hd (fun l => fill_full (l := l) hfull)
      subst hfull
      go_enter Tryd.func14, Tryd.ntmps14
      go_wp2
      go_quiet (fail)
      go_wp2
      go_ret
      rw [E.out]
      refine ⟨_, rfl, own_drwB (HO.out.alloc _) _, Grew.of_below ?_ _ _, Later.refl _ _⟩
      exact below_drewN (by go_grown) _
    · have hlt : out.length < cn := by omega
      have RC := hd (fun w' (h : SRat w' g o R) => reach_any g o R w' h b3 b4 b5 a b c HOK.out (m + 1) (by omega) (by omega))
      have rl := reach_le (limS R) (m + 1) ⟨a, b, c⟩
      have LN := hd (fun h => list_none (L := limS R) (m := m + 1) (s := ⟨a, b, c⟩) (t := t) b5.1 b4.1 HOK.out h)
      have a0 : 0 ≤ a := HOK.out.w0
      have a1 : a ≤ R.most := HOK.out.w1
      obtain ⟨r, hr⟩ : ∃ r, r = reachS (limS R) (m + 1) ⟨a, b, c⟩ := ⟨_, rfl⟩
      rw [← hr] at RC rl LN
      clear hr
      have wr : IntKind.i64.wrap (a + (r : Int)) = a + r := IntWalk.i64_in _ (by omega)
      have HRA := hd (fun X => HR.out.below ((Below.refl w.heap.size w).alloc (Nat.le_refl _) X))
      obtain ⟨n, hn⟩ : ∃ n, n = out.length := ⟨_, rfl⟩
      have HN := hd hn
      rw [← hn] at hlt hfull HO hcap hl hvb ⊢
      clear hn
      have q5 : decide (cn ≤ n) = false := by rw [decide_eq_false_iff_not]; omega
      obtain ⟨ls, hls⟩ : ∃ ls, ls = R.least := ⟨_, rfl⟩
      have e2 := e1 (.cells #[.int .i64 a, .int .i64 b, .int .i64 c] 41)
      have LN2 := hd (show a + (r : Int) < ls → listS (limS R) (m + 1) ((⟨a, b, c⟩ : ShiftPt).cut (limS R)) t = [] from fun h => LN.out (by rw [hls] at h; exact h))
      clear LN
      rw [← hls] at e2
      have HLS := hd hls
      clear hls e1
      have HGF := hd (fun w' => goes_free g o a b c HOK.out.f0 (by omega) w')
      have hbW0 := (Below.refl w.heap.size w).alloc (Nat.le_refl _) (.cells #[.int .i64 a, .int .i64 b, .int .i64 c] 41)
      have HRW := hd (HR.out.below hbW0)
      have hxW : (w.alloc (.cells #[.int .i64 a, .int .i64 b, .int .i64 c] 41)).heap[w.heap.size]? = some (.cells #[.int .i64 a, .int .i64 b, .int .i64 c] 41 (0, 0)) := by rw [heap_alloc_get, if_pos rfl]
      go_enter Tryd.func14, Tryd.ntmps14
      go_wp2
      obtain ⟨W, hW⟩ : ∃ W, W = w.alloc (.cells #[.int .i64 a, .int .i64 b, .int .i64 c] 41) := ⟨_, rfl⟩
      rw [← hW] at HRW hbW0 e2 hxW
      rw [← hW]
      have HbW := hd hbW0
      have HxW := hd hxW
      clear hW e0 hbW0
      obtain ⟨k0, k1, k2⟩ := cbox3 hxW
      clear hxW
      obtain ⟨gb, hgb⟩ : ∃ gb, gb = w.heap.size := ⟨_, rfl⟩
      rw [← hgb] at k0 k1 k2 HxW
      rw [← hgb]
      have HGB := hd hgb
      clear hgb
      have hbw0 : Below W.heap.size W W.drew := (Below.refl _ _).drew
      go_region_held3 (fun w' => (w'.cell? ⟨gb, 0, none⟩ = some (.int .i64 a) ∧ w'.cell? ⟨gb, 1, none⟩ = some (.int .i64 b) ∧ w'.cell? ⟨gb, 2, none⟩ = some (.int .i64 c)) ∧ w'.cell? ⟨g, o + 1, none⟩ = some (.int .i64 ls) ∧ Below W.heap.size W w')
        (first | go_keep | exact keepL h (by assumption))
        (first | (go_at_call 23; refine (RC.out _ (HRW.out.below (‹_ ∧ _ ∧ Below W.heap.size W _›).2.2)).mono ?_; rintro e w' ⟨rfl, h⟩))
      rename _ ∧ _ ∧ Below W.heap.size W _ => hH
      rename World => w2
      have HB2 := hd (below_tr hH.2.2 HbW.out)
      have HR2 := hd (HRW.out.below hH.2.2)
      have HC2 := hd (cbox_below HxW.out hH.2.2)
      clear hH k0 k1 k2 e2 hbw0
      by_cases hle : a + r < ls
      · have E := hd (show (listS (limS R) (m + 1) ((⟨a, b, c⟩ : ShiftPt).cut (limS R)) t).filter (gtB af) = [] by rw [LN2.out hle]; rfl)
        go_wp2
        go_ret
        rw [E.out, fill_nil (by rw [← HN.out]; exact Nat.le_of_lt hlt), ← HN.out]
        exact ⟨_, rfl, own_below HO.out HB2.out, Grew.of_below HB2.out _ _, Later.refl _ _⟩
      · have hpos : (0 : Int) < (af.size : Int) := by omega
        have hfit : (t.size : Int) ≤ (af.size : Int) := by have := HTZ.out; omega
        have hfit0 : (0 : Int) ≤ (t.size : Int) := by omega
        have CL := hd (fun h => cut_less (L := limS R) (m := m + 1) (s := (⟨a, b, c⟩ : ShiftPt).cut (limS R)) (q := t) (t := af) (by have := HTZ.out; omega) h)
        cases hbl : Go.Op.bytesLess t.toList (af.extract 0 t.size).toList with
        | true =>
          have E := hd (CL.out hbl)
          go_wp2
          go_ret
          rw [E.out, fill_nil (by rw [← HN.out]; exact Nat.le_of_lt hlt), ← HN.out]
          exact ⟨_, rfl, own_below HO.out HB2.out, Grew.of_below HB2.out _ _, Later.refl _ _⟩
        | false =>
          obtain ⟨p0, p1, p2⟩ := cbox3 HC2.out
          obtain ⟨c2, hc2⟩ : ∃ c2, c2 = if 0 ≤ c then c + 1 else c := ⟨_, rfl⟩
          rw [← hc2] at HGF
          have HC2E := hd hc2
          clear hc2
          have HOF := hd (show okR (limS R) ⟨a, 0, c2⟩ by have := okR_off (L := limS R) (show 0 ≤ R.row by omega) HOK.out; rw [HC2E.out]; exact this)
          have hcm : c2 + m ≤ 24 := by rw [HC2E.out]; split <;> omega
          have EC := hd (show ((⟨a, b, c⟩ : ShiftPt).cut (limS R)).off (limS R) = (⟨a, 0, c2⟩ : ShiftPt).cut (limS R) by rw [← cut_off (L := limS R) b5.1]; rw [HC2E.out]; rfl)
          have EM := hd (cut_may (L := limS R) b5.1 ⟨a, b, c⟩)
          have EON := hd (cut_on (L := limS R) b5.1 ⟨a, b, c⟩)
          have X1 := hd (fun w4 hr hB ho => IH.out (t ++ ⟨#[46]⟩) a 0 c2 (.slice A n cap) out w4 hr HOF.out hcm (by have := HTZ.out; simp only [ByteArray.size_append]; have e : (ByteArray.mk #[46]).size = 1 := rfl; omega) hS (by rw [← HN.out]; exact hl) hB ho)
          rw [← HN.out] at X1
          obtain ⟨o1, ho1⟩ : ∃ o1, o1 = fillS cn out ((listS (limS R) m ((⟨a, 0, c2⟩ : ShiftPt).cut (limS R)) (t ++ ⟨#[46]⟩)).filter (gtB af)) := ⟨_, rfl⟩
          rw [← ho1] at X1
          have HO1 := hd ho1
          have o1l : o1.length ≤ cn := by rw [ho1]; exact fill_len
          clear ho1
          cases hmay : (⟨a, b, c⟩ : ShiftPt).may (limS R) with
          | false =>
            have E := hd (show fillS cn out ((listS (limS R) (m + 1) ((⟨a, b, c⟩ : ShiftPt).cut (limS R)) t).filter (gtB af)) = o1 by rw [listS, EM.out, hmay, EC.out, HO1.out]; simp)
            have GX := hd (show ∃ x y z : Int, ∀ w', SRat w' g o R → Calls Tryd.prog 20 #[.pointer (some ⟨g, o, none⟩), .agg #[.int .i64 a, .int .i64 b, .int .i64 c], .bool true] w' fun r w'' => r = .returned (.tuple #[.agg #[.int .i64 x, .int .i64 y, .int .i64 z], .bool false]) ∧ Below w'.heap.size w' w'' from by
              by_cases hp : 0 < c ∧ c < R.pause
              · exact ⟨a, b, c, fun w' h => goes_no g o R a b c w' h hp.1 hp.2⟩
              · have hno : (decide (a + 1 ≤ R.most) && decide (b + 1 ≤ R.row)) = false := by
                  rw [Bool.eq_false_iff]
                  intro h
                  simp only [Bool.and_eq_true, decide_eq_true_eq] at h
                  have := (may_iff (L := limS R) (p := ⟨a, b, c⟩)).2 ⟨hp, h.1, h.2⟩
                  rw [hmay] at this; cases this
                refine ⟨a + 1, b + 1, 0, fun w' h => ?_⟩
                have := goes_yes g o R a b c w' h a0 (by omega) HOK.out.r0 (by have := HOK.out.r1; change b ≤ R.row at this; omega) (by rw [Bool.and_eq_false_iff]; simp only [decide_eq_false_iff_not]; omega)
                rw [hno] at this
                exact this)
            obtain ⟨x, y, z, gx⟩ := GX.out
            have GY := hd gx
            clear GX gx hmay
            go_wp2_with (first
              | (go_at_call_has 20 (Value.bool false); refine (HGF.out _).mono ?_; rintro e w3 ⟨rfl, hb4⟩; have HB4 := hd (below_tr ((Below.refl w3.heap.size w3).alloc (Nat.le_refl _) (.cells #[.int .i64 a, .int .i64 0, .int .i64 c2] 41)) (below_tr hb4 HB2.out)); have HC4 := hd (cbox_below (cbox_below HC2.out hb4) ((Below.refl w3.heap.size w3).alloc (Nat.le_refl _) (.cells #[.int .i64 a, .int .i64 0, .int .i64 c2] 41))); have HR4 := hd ((HR2.out.below hb4).below ((Below.refl w3.heap.size w3).alloc (Nat.le_refl _) (.cells #[.int .i64 a, .int .i64 0, .int .i64 c2] 41))); clear hb4 p0 p1 p2)
              | (go_at_call_has 14 (Value.string (t ++ ⟨#[46]⟩)); refine (X1.out _ HR4.out (Nat.le_trans HBB.out HB4.out.size) (own_below HO.out HB4.out)).mono ?_; rintro e w5 ⟨u1, rfl, ho5, hg5, hla5⟩; have HR5 := hd (HR4.out.grew hg5 (by simp) (fun e => by have := (hvb.out _ e).1; omega)); have HC5 := hd (cbox_grew HC4.out hg5 (by simp) (fun e => by have := (hvb.out _ e).2; have := HGB.out; omega)); have HO5 := hd ho5; have HG5 := hd ((Grew.of_below HB4.out none (.slice A n cap)).trans hg5 (Later.refl _ _)); have HL5 := hd (show Later w (.slice A n cap) u1 from fun k hk => (hla5 k hk).imp id (fun h => Nat.le_trans HB4.out.size h)); obtain ⟨q0, q1, q2⟩ := cbox3 HC5.out; clear ho5 hg5 hla5)
              | (go_at_call_has 20 (Value.bool true); refine (GY.out _ HR5.out).mono ?_; rintro e w6 ⟨rfl, hb6⟩; have HB6 := hd (below_tr ((Below.refl w6.heap.size w6).alloc (Nat.le_refl _) (.cells #[.int .i64 x, .int .i64 y, .int .i64 z] 41)) hb6); clear hb6 q0 q1 q2))
            go_ret
            rw [E.out]
            exact ⟨_, rfl, own_below HO5.out HB6.out, HG5.out.trans (Grew.of_below HB6.out none u1) HL5.out, HL5.out⟩
          | true =>
            obtain ⟨m0, m1, m2⟩ := (may_iff (L := limS R)).1 hmay
            simp only [limS] at m0 m1 m2
            have HON := hd (okR_on (L := limS R) HOK.out hmay)
            have X2 := hd (fun u w4 hr hB ho => IH.out (t ++ ⟨#[119]⟩) (a + 1) (b + 1) 0 u o1 w4 hr HON.out (by omega) (by have := HTZ.out; simp only [ByteArray.size_append]; have e : (ByteArray.mk #[119]).size = 1 := rfl; omega) hS o1l hB ho)
            have E := hd (show fillS cn out ((listS (limS R) (m + 1) ((⟨a, b, c⟩ : ShiftPt).cut (limS R)) t).filter (gtB af)) = fillS cn o1 ((listS (limS R) m ((⟨a + 1, b + 1, 0⟩ : ShiftPt).cut (limS R)) (t ++ ⟨#[119]⟩)).filter (gtB af)) by
              rw [listS, EM.out, hmay, EC.out, HO1.out, fill_app, if_pos rfl, ← EON.out, List.filter_append]; rfl)
            obtain ⟨l2, hl2⟩ : ∃ l2, l2 = fillS cn o1 ((listS (limS R) m ((⟨a + 1, b + 1, 0⟩ : ShiftPt).cut (limS R)) (t ++ ⟨#[119]⟩)).filter (gtB af)) := ⟨_, rfl⟩
            rw [← hl2] at E X2
            clear hl2
            have GY := hd (fun w' (h : SRat w' g o R) => goes_yes g o R a b c w' h a0 (by omega) HOK.out.r0 (by omega) (by rw [Bool.and_eq_false_iff]; simp only [decide_eq_false_iff_not]; omega))
            rw [decide_eq_true m1, decide_eq_true m2] at GY
            clear hmay
            go_wp2_with (first
              | (go_at_call_has 20 (Value.bool false); refine (HGF.out _).mono ?_; rintro e w3 ⟨rfl, hb4⟩; have HB4 := hd (below_tr ((Below.refl w3.heap.size w3).alloc (Nat.le_refl _) (.cells #[.int .i64 a, .int .i64 0, .int .i64 c2] 41)) (below_tr hb4 HB2.out)); have HC4 := hd (cbox_below (cbox_below HC2.out hb4) ((Below.refl w3.heap.size w3).alloc (Nat.le_refl _) (.cells #[.int .i64 a, .int .i64 0, .int .i64 c2] 41))); have HR4 := hd ((HR2.out.below hb4).below ((Below.refl w3.heap.size w3).alloc (Nat.le_refl _) (.cells #[.int .i64 a, .int .i64 0, .int .i64 c2] 41))); clear hb4 p0 p1 p2)
              | (go_at_call_has 14 (Value.string (t ++ ⟨#[46]⟩)); refine (X1.out _ HR4.out (Nat.le_trans HBB.out HB4.out.size) (own_below HO.out HB4.out)).mono ?_; rintro e w5 ⟨u1, rfl, ho5, hg5, hla5⟩; have HR5 := hd (HR4.out.grew hg5 (by simp) (fun e => by have := (hvb.out _ e).1; omega)); have HC5 := hd (cbox_grew HC4.out hg5 (by simp) (fun e => by have := (hvb.out _ e).2; have := HGB.out; omega)); have HO5 := hd ho5; have HG5 := hd ((Grew.of_below HB4.out none (.slice A n cap)).trans hg5 (Later.refl _ _)); have HL5 := hd (show Later w (.slice A n cap) u1 from fun k hk => (hla5 k hk).imp id (fun h => Nat.le_trans HB4.out.size h)); obtain ⟨q0, q1, q2⟩ := cbox3 HC5.out; clear ho5 hg5 hla5)
              | (go_at_call_has 20 (Value.bool true); refine (GY.out _ HR5.out).mono ?_; rintro e w6 ⟨rfl, hb6⟩; have HB6 := hd (below_tr ((Below.refl w6.heap.size w6).alloc (Nat.le_refl _) (.cells #[.int .i64 (a + 1), .int .i64 (b + 1), .int .i64 0] 41)) hb6); clear hb6 q0 q1 q2)
              | (go_at_call_has 14 (Value.string (t ++ ⟨#[119]⟩)); refine (X2.out u1 _ (HR5.out.below HB6.out) (Nat.le_trans (Nat.le_trans HBB.out HG5.out.size) HB6.out.size) (own_below HO5.out HB6.out)).mono ?_; rintro e w7 ⟨u2, rfl, ho7, hg7, hla7⟩; have HG7 := hd (HG5.out.trans ((Grew.of_below HB6.out none u1).trans hg7 (Later.refl _ _)) HL5.out); have HL7 := hd (HL5.out.trans hla7 (Nat.le_trans HG5.out.size HB6.out.size)); have HO7 := hd ho7; clear ho7 hg7 hla7))
            go_ret
            rw [E.out]
            exact ⟨_, rfl, HO7.out, HG7.out, HL7.out⟩
end Go.Proofs.YtmjdhignhdphpaaDoor
