/- Whether a text is a shift, the reference's side. -/
import Derived.Test.YtmjdhignhdphpaaDoorProg
import Derived.Test.YtmjdhignhdphpaaDoorStatesI
namespace Go.Proofs.YtmjdhignhdphpaaDoor
open Go.RowKit Plain
set_option linter.unusedVariables false
set_option linter.unusedSimpArgs false
attribute [local go_sem ↓] Go.wp_at_zero Go.wp_at_succ

/-- three cells stored one by one -/
def set3 (w : World) (g : Nat) (a b c : Value) : World := ((w.setCell ⟨g, 0, none⟩ a).setCell ⟨g, 1, none⟩ b).setCell ⟨g, 2, none⟩ c
theorem set3_heap {w : World} {g : Nat} {x0 x1 x2 : Value} {t : TypeId} (h : w.heap[g]? = some (.cells #[x0, x1, x2] t (0, 0))) (a b c : Value) : (set3 w g a b c).heap[g]? = some (.cells #[a, b, c] t (0, 0)) := by
  have h1 := heap_setCell_same w g 0 _ t a h
  have h2 := heap_setCell_same _ g 1 _ t b h1
  have h3 := heap_setCell_same _ g 2 _ t c h2
  simpa [set3] using h3
theorem set3_grown (w : World) (g : Nat) (a b c : Value) : w.grownBy (set3 w g a b c) (some g) := ((grown_setCell w g 0 a).trans (grown_setCell _ g 1 b)).trans (grown_setCell _ g 2 c)
theorem cbox_free3 {w : World} {g : Nat} {a b c : Value} {t : TypeId} (h : CBox w g #[a, b, c] t) : w.frozen? ⟨g, 0, none⟩ = false ∧ w.frozen? ⟨g, 1, none⟩ = false ∧ w.frozen? ⟨g, 2, none⟩ = false :=
  ⟨frozen_of_row w g 0 _ t h, frozen_of_row w g 1 _ t h, frozen_of_row w g 2 _ t h⟩
theorem goes_step (g o : Nat) (R : SR) (hv : validS R = true) (t : ByteArray) (k : Nat) (hk : k < 24) (a b c : Int) (q : Nat) (hcod : cod t k = q) (hq : q = 119 ∨ q = 46) (hO : okR (limS R) ⟨a, b, c⟩) (hck : c ≤ k) (hrun : runS (limS R) t k = some ((⟨a, b, c⟩ : ShiftPt).cut (limS R))) :
    ∃ (a' b' c' : Int) (ok : Bool), (∀ w', SRat w' g o R → Calls Tryd.prog 20 #[.pointer (some ⟨g, o, none⟩), .agg #[.int .i64 a, .int .i64 b, .int .i64 c], .bool ((q : Int) == 119)] w' fun r w'' => r = .returned (.tuple #[.agg #[.int .i64 a', .int .i64 b', .int .i64 c'], .bool ok]) ∧ Below w'.heap.size w' w'') ∧
      (ok = true → okR (limS R) ⟨a', b', c'⟩ ∧ c' ≤ (k + 1 : Nat) ∧ runS (limS R) t (k + 1) = some ((⟨a', b', c'⟩ : ShiftPt).cut (limS R))) ∧ (ok = false → runS (limS R) t (k + 1) = none) := by
  obtain ⟨b1, b2, b3, b4, b5⟩ := valid_bd hv
  have hrs := run_succ hrun
  have a0 : 0 ≤ a := hO.w0
  have a1 : a ≤ R.most := hO.w1
  have r0 : 0 ≤ b := hO.r0
  have r1 : b ≤ R.row := hO.r1
  have f0 : -1 ≤ c := hO.f0
  rcases hq with rfl | rfl
  · have e : (((119 : Nat) : Int) == 119) = true := rfl
    rw [e]
    rw [hcod] at hrs
    change runS _ t (k + 1) = stepS _ _ 119 at hrs
    cases hmay : (⟨a, b, c⟩ : ShiftPt).may (limS R) with
    | true =>
      obtain ⟨m0, m1, m2⟩ := (may_iff (L := limS R)).1 hmay
      simp only [limS] at m0 m1 m2
      refine ⟨a + 1, b + 1, 0, true, fun w' h => ?_, fun _ => ⟨okR_on hO hmay, by omega, ?_⟩, fun h => by cases h⟩
      · have N := goes_yes g o R a b c w' h a0 (by omega) r0 (by omega) (by rw [Bool.and_eq_false_iff]; simp only [decide_eq_false_iff_not]; omega)
        rw [decide_eq_true m1, decide_eq_true m2] at N
        exact N
      · rw [hrs, step_w (by rw [cut_may (L := limS R) b5.1]; exact hmay), ← cut_on (L := limS R) b5.1]
        rfl
    | false =>
      have hno : stepS (limS R) ((⟨a, b, c⟩ : ShiftPt).cut (limS R)) 119 = none := step_no (by rw [cut_may (L := limS R) b5.1]; exact hmay)
      rw [hno] at hrs
      by_cases hp : 0 < c ∧ c < R.pause
      · exact ⟨a, b, c, false, fun w' h => goes_no g o R a b c w' h hp.1 hp.2, fun h => (by cases h), fun _ => hrs⟩
      · have hno2 : (decide (a + 1 ≤ R.most) && decide (b + 1 ≤ R.row)) = false := by
          rw [Bool.eq_false_iff]
          intro h
          simp only [Bool.and_eq_true, decide_eq_true_eq] at h
          have := (may_iff (L := limS R) (p := ⟨a, b, c⟩)).2 ⟨hp, h.1, h.2⟩
          rw [hmay] at this; cases this
        refine ⟨a + 1, b + 1, 0, false, fun w' h => ?_, fun h => (by cases h), fun _ => hrs⟩
        have N := goes_yes g o R a b c w' h a0 (by omega) r0 (by omega) (by rw [Bool.and_eq_false_iff]; simp only [decide_eq_false_iff_not]; omega)
        rw [hno2] at N
        exact N
  · have e : (((46 : Nat) : Int) == 119) = false := rfl
    rw [e]
    rw [hcod, step_f (by omega), ← cut_off (L := limS R) b5.1] at hrs
    refine ⟨a, 0, if 0 ≤ c then c + 1 else c, true, fun w' _ => goes_free g o a b c f0 (by omega) w', fun _ => ⟨okR_off (show 0 ≤ R.row by omega) hO, by split <;> omega, hrs⟩, fun h => by cases h⟩
set_option maxHeartbeats 4000000 in
set_option maxRecDepth 100000 in
theorem l06Shift_any (g o : Nat) (R : SR) (hv : validS R = true) (t : ByteArray) (ht : t.size ≤ maxLen) (w : World) (hr : SRat w g o R) :
    Calls Tryd.prog 11 #[.pointer (some ⟨g, o, none⟩), .string t] w fun e w' => e = .returned (.bool (isS (limS R) R.slots t)) ∧ Below w.heap.size w w' := by
  obtain ⟨b1, b2, b3, b4, b5⟩ := valid_bd hv
  have htm := ht
  unfold maxLen at htm
  have HR := hd hr
  obtain ⟨e0, e1, _, _, _⟩ := hr
  have hgl := block_lt_of_cell e0
  by_cases hlen : (t.size : Int) = R.slots
  · obtain ⟨L, hL⟩ : ∃ L : ShiftLim, L = limS R := ⟨_, rfl⟩
    have HL := hd hL
    rw [← hL]
    have HNO := hd (fun h => isS_run (L := L) (S := R.slots) (t := t) h)
    have HBAD := hd (fun h => isS_let (L := L) (S := R.slots) (t := t) h)
    have HLB := hd (fun k hk h1 h2 => let_bad (t := t) (k := k) hk h1 h2)
    have HEND := hd (fun s h1 h => isS_end (L := L) (s := s) hlen h1 h)
    have HALL := hd (fun h => let_all (t := t) h)
    have n24 : t.size ≤ 24 := by omega
    have n1 : 1 ≤ t.size := by omega
    have OK0 := hd (show okR L ⟨0, 0, -1⟩ by rw [hL]; exact okR_start b3.1 (show 0 ≤ R.row by omega))
    have HLEAST := hd (show L.least = R.least by rw [hL]; rfl)
    clear hL htm
    have HLEN := hd hlen
    rw [← hlen] at e0
    clear hlen
    go_enter Tryd.func11, Tryd.ntmps11
    go_wp2_with (go_at_call 15; refine (l06Start_any _).mono ?_; rintro e w1 ⟨rfl, hb1⟩; have HB1 := hd hb1; clear hb1)
    have X5 := hd (show CBox (w1.alloc (.cells #[.int .i64 0, .int .i64 0, .int .i64 (-1)] 41)) w1.heap.size #[.int .i64 0, .int .i64 0, .int .i64 (-1)] 41 from by show (w1.alloc _).heap[w1.heap.size]? = _; rw [heap_alloc_get, if_pos rfl])
    have HB2 := hd (show Below w.heap.size w (w1.alloc (.cells #[.int .i64 0, .int .i64 0, .int .i64 (-1)] 41)) from below_tr ((Below.refl w1.heap.size w1).alloc (Nat.le_refl _) _) HB1.out)
    have HZ := hd HB1.out.size
    clear HB1
    obtain ⟨g5, hg5⟩ : ∃ g5, g5 = w1.heap.size := ⟨_, rfl⟩
    rw [← hg5] at X5 HZ
    rw [← hg5]
    clear hg5 e0 e1
    go_loopw [6] (fun ix wr => ∃ (k : Nat) (a b c : Int), k ≤ t.size ∧ ix = .int .i64 k ∧ Hid (okR L ⟨a, b, c⟩) ∧ c ≤ k ∧ Hid (runS L t k = some ((⟨a, b, c⟩ : ShiftPt).cut L)) ∧ Hid (∀ j, j < k → cod t j = 119 ∨ cod t j = 46) ∧ Hid (CBox wr g5 #[.int .i64 a, .int .i64 b, .int .i64 c] 41) ∧ Hid (Below w.heap.size w wr)) (fun ix _ => t.size - (intOf ix).toNat)
    case atStart => exact ⟨0, 0, 0, -1, by omega, rfl, OK0, by omega, hd rfl, hd (fun j hj => absurd hj (by omega)), X5, HB2⟩
    case round =>
      clear X5 HB2 OK0
      obtain ⟨k, a, b, c, hk, rfl, HO, hck, HRUN, HLT, C5, HB⟩ := hrel
      have HRW := hd (HR.out.below HB.out)
      by_cases hks : k < t.size
      · obtain ⟨q, hq2, hcod⟩ := letter_at hks
        have k1 : (0 : Int) ≤ (k : Int) := by omega
        have k2 : (k : Int) < (t.size : Int) := by omega
        obtain ⟨p0, p1, p2⟩ := cbox3 C5.out
        by_cases hq : q = 119 ∨ q = 46
        · obtain ⟨a', b', c', ok, N, F1, F2⟩ := goes_step g o R hv t k (by omega) a b c q hcod hq (by rw [← HL.out]; exact HO.out) hck (by rw [← HL.out]; exact HRUN.out)
          rw [← HL.out] at F1 F2
          have HN := hd N
          have HF1 := hd F1
          have HF2 := hd F2
          have HLT2 := hd (show ∀ j, j < k + 1 → cod t j = 119 ∨ cod t j = 46 from fun j hj => by
            by_cases e : j = k
            · subst e; rw [hcod]; rcases hq with rfl | rfl
              · exact .inl rfl
              · exact .inr rfl
            · exact HLT.out j (by omega))
          clear N F1 F2 hcod
          cases ok with
          | true =>
            obtain ⟨G1, G2, G3⟩ := HF1.out rfl
            have HG1 := hd G1; have HG3 := hd G3
            clear G1 G3 HF1 HF2
            rcases hq with rfl | rfl
            all_goals
              go_wp2
              have o0 := fun X => Lib.cell?_alloc_some X p0
              have o1 := fun X => Lib.cell?_alloc_some X p1
              have o2 := fun X => Lib.cell?_alloc_some X p2
              go_region_with (first
                | (go_at_call 20; refine (HN.out ((wr.alloc (.cells #[.int .i64 0, .int .i64 0, .int .i64 0] 41)).drew) (HRW.out.below ((Below.refl wr.heap.size wr).alloc (Nat.le_refl _) _)).drew).mono ?_; rintro e w4 ⟨rfl, hb4'⟩; have hb4 : Below (wr.alloc (.cells #[.int .i64 0, .int .i64 0, .int .i64 0] 41)).heap.size (wr.alloc (.cells #[.int .i64 0, .int .i64 0, .int .i64 0] 41)) w4 := below_tr hb4' (Below.refl _ _).drew; clear hb4'; have HA1 := hd (cbox_below (show CBox (wr.alloc (.cells #[.int .i64 0, .int .i64 0, .int .i64 0] 41)) wr.heap.size #[.int .i64 0, .int .i64 0, .int .i64 0] 41 from by show (wr.alloc _).heap[wr.heap.size]? = _; rw [heap_alloc_get, if_pos rfl]) hb4); have HB4 := hd (below_tr hb4 ((Below.refl wr.heap.size wr).alloc (Nat.le_refl _) _)); clear hb4; obtain ⟨y0, y1, y2⟩ := cbox3 HA1.out; obtain ⟨z0, z1, z2⟩ := cbox_free3 HA1.out)
                | (go_at_call 20; refine (HN.out wr.drew HRW.out.drew).mono ?_; rintro e w4 ⟨rfl, hb4'⟩; have HB4 := hd (below_tr hb4' (Below.refl _ _).drew : Below wr.heap.size wr w4); have HA2 := hd (Below.refl w4.heap.size w4); clear hb4'))
              all_goals
                first
                | (have hA1 := HA1.out
                   obtain ⟨w5, hw5⟩ : ∃ w5, w5 = set3 w4 wr.heap.size (.int .i64 a') (.int .i64 b') (.int .i64 c') := ⟨_, rfl⟩
                   have X7 := hd (show CBox w5 wr.heap.size #[.int .i64 a', .int .i64 b', .int .i64 c'] 41 by rw [hw5]; exact set3_heap hA1 _ _ _)
                   have HB5 := hd (show Below wr.heap.size wr w5 by rw [hw5]; exact below_row (set3_grown w4 wr.heap.size _ _ _) HB4.out (fun q hq => by cases hq; exact Nat.le_refl _))
                   simp only [set3] at hw5
                   rw [← hw5]
                   clear hw5 hA1 HA1 y0 y1 y2 z0 z1 z2 p0 p1 p2 o0 o1 o2
                   obtain ⟨g7, hg7⟩ : ∃ g7, g7 = wr.heap.size := ⟨_, rfl⟩
                   have HG7 := hd (show wr.heap.size ≤ g7 by rw [hg7]; exact Nat.le_refl _)
                   rw [← hg7] at X7
                   rw [← hg7]
                   clear hg7)
                | (have hA2 := HA2.out
                   obtain ⟨w5, hw5⟩ : ∃ w5, w5 = w4.alloc (.cells #[.int .i64 a', .int .i64 b', .int .i64 c'] 41) := ⟨_, rfl⟩
                   have X7 := hd (show CBox w5 w4.heap.size #[.int .i64 a', .int .i64 b', .int .i64 c'] 41 by rw [hw5]; show (w4.alloc _).heap[w4.heap.size]? = _; rw [heap_alloc_get, if_pos rfl])
                   have HB5 := hd (show Below wr.heap.size wr w5 by rw [hw5]; exact below_tr ((Below.refl w4.heap.size w4).alloc (Nat.le_refl _) _) HB4.out)
                   rw [← hw5]
                   clear hw5 hA2 HA2 p0 p1 p2 o0 o1 o2
                   obtain ⟨g7, hg7⟩ : ∃ g7, g7 = w4.heap.size := ⟨_, rfl⟩
                   have HG7 := hd (show wr.heap.size ≤ g7 by rw [hg7]; exact HB4.out.size)
                   rw [← hg7] at X7
                   rw [← hg7]
                   clear hg7)
                have C55 := hd (show w5.heap[g5]? = some (.cells #[.int .i64 a, .int .i64 b, .int .i64 c] 41 (0, 0)) from cbox_below C5.out HB5.out)
                obtain ⟨y0, y1, y2⟩ := cbox3 X7.out
                have HBW := hd (below_tr HB5.out HB.out)
                go_wp2_with ((with_reducible refine wpList_store_rec _ g5 _ #[.int .i64 a', .int .i64 b', .int .i64 c'] 41 C55.out ?_ ?_ ?_ ?_ ?_ ?_); exact size_place; exact rfl; exact one3; exact rfl; exact rfl; intro w6 hx6 hg6)
                go_roundw
                case rel => exact ⟨k + 1, a', b', c', by omega, by go_num, HG1, G2, HG3, HLT2, hd hx6, hd (below_row hg6 HBW.out (fun q hq => by have := HZ.out; cases hq; omega))⟩
                case measure => simp [intOf]; omega
          | false =>
            have HE := hd (HNO.out (run_none (HF2.out rfl) t.size (by omega)))
            clear HF1 HF2
            rcases hq with rfl | rfl
            all_goals
              go_wp2
              have o0 := fun X => Lib.cell?_alloc_some X p0
              have o1 := fun X => Lib.cell?_alloc_some X p1
              have o2 := fun X => Lib.cell?_alloc_some X p2
              go_region_with (first
                | (go_at_call 20; refine (HN.out ((wr.alloc (.cells #[.int .i64 0, .int .i64 0, .int .i64 0] 41)).drew) (HRW.out.below ((Below.refl wr.heap.size wr).alloc (Nat.le_refl _) _)).drew).mono ?_; rintro e w4 ⟨rfl, hb4'⟩; have hb4 : Below (wr.alloc (.cells #[.int .i64 0, .int .i64 0, .int .i64 0] 41)).heap.size (wr.alloc (.cells #[.int .i64 0, .int .i64 0, .int .i64 0] 41)) w4 := below_tr hb4' (Below.refl _ _).drew; clear hb4'; have HA1 := hd (cbox_below (show CBox (wr.alloc (.cells #[.int .i64 0, .int .i64 0, .int .i64 0] 41)) wr.heap.size #[.int .i64 0, .int .i64 0, .int .i64 0] 41 from by show (wr.alloc _).heap[wr.heap.size]? = _; rw [heap_alloc_get, if_pos rfl]) hb4); have HB4 := hd (below_tr hb4 ((Below.refl wr.heap.size wr).alloc (Nat.le_refl _) _)); clear hb4; obtain ⟨y0, y1, y2⟩ := cbox3 HA1.out; obtain ⟨z0, z1, z2⟩ := cbox_free3 HA1.out)
                | (go_at_call 20; refine (HN.out wr.drew HRW.out.drew).mono ?_; rintro e w4 ⟨rfl, hb4'⟩; have HB4 := hd (below_tr hb4' (Below.refl _ _).drew : Below wr.heap.size wr w4); have HA2 := hd (Below.refl w4.heap.size w4); clear hb4'))
              all_goals
                first
                | (have hA1 := HA1.out
                   obtain ⟨w5, hw5⟩ : ∃ w5, w5 = set3 w4 wr.heap.size (.int .i64 a') (.int .i64 b') (.int .i64 c') := ⟨_, rfl⟩
                   have X7 := hd (show CBox w5 wr.heap.size #[.int .i64 a', .int .i64 b', .int .i64 c'] 41 by rw [hw5]; exact set3_heap hA1 _ _ _)
                   have HB5 := hd (show Below wr.heap.size wr w5 by rw [hw5]; exact below_row (set3_grown w4 wr.heap.size _ _ _) HB4.out (fun q hq => by cases hq; exact Nat.le_refl _))
                   simp only [set3] at hw5
                   rw [← hw5]
                   clear hw5 hA1 HA1 y0 y1 y2 z0 z1 z2 p0 p1 p2 o0 o1 o2
                   obtain ⟨g7, hg7⟩ : ∃ g7, g7 = wr.heap.size := ⟨_, rfl⟩
                   have HG7 := hd (show wr.heap.size ≤ g7 by rw [hg7]; exact Nat.le_refl _)
                   rw [← hg7] at X7
                   rw [← hg7]
                   clear hg7)
                | (have hA2 := HA2.out
                   obtain ⟨w5, hw5⟩ : ∃ w5, w5 = w4.alloc (.cells #[.int .i64 a', .int .i64 b', .int .i64 c'] 41) := ⟨_, rfl⟩
                   have X7 := hd (show CBox w5 w4.heap.size #[.int .i64 a', .int .i64 b', .int .i64 c'] 41 by rw [hw5]; show (w4.alloc _).heap[w4.heap.size]? = _; rw [heap_alloc_get, if_pos rfl])
                   have HB5 := hd (show Below wr.heap.size wr w5 by rw [hw5]; exact below_tr ((Below.refl w4.heap.size w4).alloc (Nat.le_refl _) _) HB4.out)
                   rw [← hw5]
                   clear hw5 hA2 HA2 p0 p1 p2 o0 o1 o2
                   obtain ⟨g7, hg7⟩ : ∃ g7, g7 = w4.heap.size := ⟨_, rfl⟩
                   have HG7 := hd (show wr.heap.size ≤ g7 by rw [hg7]; exact HB4.out.size)
                   rw [← hg7] at X7
                   rw [← hg7]
                   clear hg7)
                have HBW := hd (below_tr HB5.out HB.out)
                go_wp2
                go_ret
                exact ⟨by rw [HE.out]; rfl, HBW.out⟩
        · have HE := hd (HBAD.out (HLB.out k hks (by omega) (by omega)))
          have n119 : ((q : Int) != 119) = true := by simp; omega
          have n46 : ((q : Int) != 46) = true := by simp; omega
          clear hcod hq
          go_wp2
          go_ret
          exact ⟨by rw [HE.out]; rfl, HB.out⟩
      · have e : k = t.size := by omega
        subst e
        have HE := hd (HEND.out _ (HALL.out HLT.out) HRUN.out)
        obtain ⟨p0, p1, p2⟩ := cbox3 C5.out
        have e1 := HRW.out.c1
        have HE2 : isS L R.slots t = decide (R.least ≤ a) := by rw [HE.out, HLEAST.out]; rfl
        have HE3 := hd HE2
        clear HE2 HE
        generalize R.least = ls at *
        go_wp2
        go_quiet (fail)
        go_wp2
        go_ret
        exact ⟨by rw [HE3.out]; rfl, below_drewN HB.out _⟩
  · have HE := hd (isS_len (L := limS R) hlen)
    have hne : ((t.size : Int) != R.slots) = true := by simp; exact hlen
    go_enter Tryd.func11, Tryd.ntmps11
    go_wp2
    go_ret
    exact ⟨by rw [HE.out]; rfl, Below.refl _ _⟩
end Go.Proofs.YtmjdhignhdphpaaDoor
