/- NextShift, the program's side. -/
import Derived.Test.YtmjdhignhdphpaaDoorProg
import Derived.Test.YtmjdhignhdphpaaDoorNextS
namespace Go.Proofs.YtmjdhignhdphpaaDoor
open Go.RowKit Plain
set_option linter.unusedVariables false
set_option linter.unusedSimpArgs false
attribute [local go_sem ↓] Go.wp_at_zero Go.wp_at_succ

theorem own_grew {w w' : World} {base size n : Nat} {e : TypeId} {v u : Value} {xs : List Value} {b : Option Nat} (h : w.ownsRow base e size v n xs) (hg : Grew w w' b u) (hb : ∀ k, v.ownBlock = some k → some k ≠ b ∧ u.ownBlock ≠ some k) : w'.ownsRow base e size v n xs := by
  refine ⟨h.1, ?_⟩
  rcases h.2 with h1 | ⟨g, cap, cur, hv, hbg, hc, r⟩
  · exact .inl h1
  · have hk := hb g (by rw [hv]; rfl)
    have hlt : g < w.heap.size := (Array.getElem?_eq_some_iff.1 hc).1
    exact .inr ⟨g, cap, cur, hv, hbg, (hg.block g hlt hk.1 hk.2).trans hc, r⟩
/-- the cells of one state -/
theorem st_cells {w : World} {B cap n : Nat} {u : Value} {l : List St} (h : w.ownsRow B 48 5 u n (sts l)) (hn : n ≤ maxLen) (hl : l.length = n) {k : Nat} {s : St} (hk : l[k]? = some s) : ∃ g cap, u = .slice (some ⟨g, 0, none⟩) n cap ∧ n ≤ cap ∧
    w.cell? ⟨g, k * 5, none⟩ = some (.int .i64 s.sl) ∧ w.cell? ⟨g, k * 5 + 1, none⟩ = some (.int .i64 s.wk) ∧ w.cell? ⟨g, k * 5 + 2, none⟩ = some (.int .i64 s.rw) ∧ w.cell? ⟨g, k * 5 + 3, none⟩ = some (.int .i64 s.ps) ∧ w.cell? ⟨g, k * 5 + 4, none⟩ = some (.bool s.bg) := by
  obtain ⟨A, cap, rfl, hc, _, hA⟩ := own_rd h hn
  have hkl : k < l.length := (List.getElem?_eq_some_iff.1 hk).1
  rcases hA with ⟨h0, hcap⟩ | ⟨g, rfl, _, _⟩
  · omega
  · refine ⟨g, cap, rfl, hc, ?_, ?_, ?_, ?_, ?_⟩
    · have := h.cellAt (k * 5) (by omega); rw [this]; have := sts_get hk 0 (by omega); exact this
    · have := h.cellAt (k * 5 + 1) (by omega); rw [this]; exact sts_get hk 1 (by omega)
    · have := h.cellAt (k * 5 + 2) (by omega); rw [this]; exact sts_get hk 2 (by omega)
    · have := h.cellAt (k * 5 + 3) (by omega); rw [this]; exact sts_get hk 3 (by omega)
    · have := h.cellAt (k * 5 + 4) (by omega); rw [this]; exact sts_get hk 4 (by omega)
theorem cap_sum (j : Nat) : j * 2 ^ j + capN j ≤ (j + 1) * 2 ^ (j + 1) := by
  have h : (2 : Nat) ^ (j + 1) = 2 * 2 ^ j := by rw [Nat.pow_succ, Nat.mul_comm]
  unfold capN
  rw [h, ← Nat.mul_assoc, ← Nat.add_mul]
  exact Nat.mul_le_mul_right _ (by omega)
theorem cap_bd {j : Nat} (hj : j ≤ 23) : (j + 1) * 2 ^ (j + 1) ≤ 2 ^ 30 := by
  have h : (2 : Nat) ^ (j + 1) ≤ 2 ^ 24 := Nat.pow_le_pow_right (by omega) (by omega)
  have := Nat.mul_le_mul (show j + 1 ≤ 24 by omega) h
  omega
theorem next_w {L : ShiftLim} {t : ByteArray} {k : Nat} (h : cod t k = 119) : nextAt L t k = none := by rw [nextAt, if_pos h]
theorem next_n {L : ShiftLim} {t : ByteArray} {k : Nat} {s : ShiftPt} (hs : runS L t k = some s) (hm : s.may L = false) : nextAt L t k = none := by
  rw [nextAt, hs]; dsimp only; rw [hm]; simp
theorem next_y {L : ShiftLim} {t : ByteArray} {k : Nat} {s : ShiftPt} (h : ¬ cod t k = 119) (hs : runS L t k = some s) (hm : s.may L = true) : nextAt L t k = (listS L (t.size - (k + 1)) s.on (preB t k ++ ⟨#[119]⟩)).head? := by
  rw [nextAt, if_neg h, hs]; dsimp only; rw [if_pos hm]
set_option maxHeartbeats 4000000 in
set_option maxRecDepth 100000 in
theorem implNext_no (r : SR) (t : ByteArray) (ht : t.size ≤ maxLen) (w : World) (hok : okN r t = false) :
    Calls Tryd.prog 9 #[r.val, .string t] w (Str2 (⟨#[]⟩, false) w) := by
  have hI := hd (fun W => ValidRule_any r W)
  have S0 := hd (srat_box w r 26)
  cases hv : validS r with
  | false =>
    rw [hv] at hI
    clear hv
    obtain ⟨a, b, c, d, e⟩ := r
    simp only [SR.val] at *
    go_enter Tryd.func9, Tryd.ntmps9
    go_wp2_with (go_at_call 12; refine (hI.out _).mono ?_; rintro e w1 ⟨rfl, hb1⟩)
    go_ret2
    exact ⟨rfl, below_tr hb1 ((Below.refl w.heap.size w).alloc (Nat.le_refl _) _)⟩
  | true =>
    have hS := hd (fun W => states_any r hv t ht W)
    have hs : isS (limS r) r.slots t = false := by rw [okN, hv] at hok; exact hok
    have HS := hd hs
    rw [hv] at hI
    clear hv hok hs
    obtain ⟨a, b, c, d, e⟩ := r
    simp only [SR.val] at *
    go_enter Tryd.func9, Tryd.ntmps9
    go_wp2_with (first
      | (go_at_call 12; refine (hI.out _).mono ?_; rintro e w1 ⟨rfl, hb1⟩; have HB1 := hd (below_tr hb1 ((Below.refl w.heap.size w).alloc (Nat.le_refl _) (.cells #[.int .i64 a, .int .i64 b, .int .i64 c, .int .i64 d, .int .i64 e] 26))); obtain ⟨r0, r1, r2, r3, r4⟩ := S0.out.below hb1; clear hb1; simp only at r0 r1 r2 r3 r4)
      | (go_at_call 13; refine (hS.out _).mono ?_; rintro e w2 ⟨u, rfl, hb2, _⟩; rw [HS.out]))
    go_ret2
    exact ⟨rfl, below_tr hb2 HB1.out⟩
set_option maxHeartbeats 16000000 in
set_option maxRecDepth 100000 in
theorem implNext_yes (r : SR) (t : ByteArray) (ht : t.size ≤ maxLen) (w : World) (hok : okN r t = true) :
    Calls Tryd.prog 9 #[r.val, .string t] w (Str2 (nextM r t) w) := by
  have hI := hd (fun W => ValidRule_any r W)
  have S0 := hd (srat_box w r 26)
  have hb := hok
  simp only [okN, Bool.and_eq_true] at hb
  obtain ⟨hv, hs⟩ := hb
  have hS := hd (fun W => states_any r hv t ht W)
  obtain ⟨q1, q2, q3⟩ := isS_parts hs
  have NN := hd (fun h => nextM_none (r := r) (t := t) hok h)
  have NS := hd (fun x h => nextM_some (r := r) (t := t) (x := x) hok h)
  obtain ⟨b1, b2, b3, b4, b5⟩ := valid_bd hv
  have HS := hd hs
  have hA := hd (fun W => asShifts_any r W)
  rw [hv] at hI
  clear hv hs hok q2 q3
  obtain ⟨a0, a1, a2, a3, a4⟩ := r
  simp only [SR.val, limS] at *
  subst q1
  have n24 : t.size ≤ 24 := by omega
  have n1 : 1 ≤ t.size := by omega
  go_enter Tryd.func9, Tryd.ntmps9
  go_wp2_with (first
    | (go_at_call 12; refine (hI.out _).mono ?_; rintro e w1 ⟨rfl, hb1⟩; have HB1 := hd (below_tr hb1 ((Below.refl w.heap.size w).alloc (Nat.le_refl _) (.cells #[.int .i64 (t.size : Int), .int .i64 a1, .int .i64 a2, .int .i64 a3, .int .i64 a4] 26))); have R1 := hd (cbox_below (show CBox (w.alloc (.cells #[.int .i64 (t.size : Int), .int .i64 a1, .int .i64 a2, .int .i64 a3, .int .i64 a4] 26)) w.heap.size #[.int .i64 (t.size : Int), .int .i64 a1, .int .i64 a2, .int .i64 a3, .int .i64 a4] 26 from by show (w.alloc _).heap[w.heap.size]? = _; rw [heap_alloc_get, if_pos rfl]) hb1); clear hb1; obtain ⟨r0, r1, r2, r3, r4⟩ := cbox_cells5 R1.out)
    | (go_at_call 13; refine (hS.out _).mono ?_; rintro e w2 ⟨u, rfl, hb2, hst⟩; rw [HS.out]; obtain ⟨l, c, hst, hrow⟩ := hst HS.out; have HST := hd hst; have HROW := hd hrow; have HB2 := hd (below_tr hb2 HB1.out); have R2 := hd (cbox_below R1.out hb2); clear hb2 hst hrow r0 r1 r2 r3 r4; obtain ⟨r0, r1, r2, r3, r4⟩ := cbox_cells5 R2.out)
    | (go_at_call 16; refine (hA.out _).mono ?_; rintro e w3 ⟨b, rfl, hk3, hg3, hb3⟩; have HK3 := hd hk3; have HG3 := hd hg3; have HB3 := hd (below_tr hb3 HB2.out); have R3 := hd (cbox_below R2.out hb3); have HR3 := hd (own_below HROW.out hb3); clear hb3 hk3 hg3 r0 r1 r2 r3 r4))
  obtain ⟨L, hL⟩ : ∃ L : ShiftLim, L = ⟨a1, a2, a3, a4⟩ := ⟨_, rfl⟩
  have HL := hd hL
  rw [← hL] at NN NS HST HK3
  clear hL
  have X8 := hd (show CBox (w3.alloc (.cells #[.int .i64 (t.size : Int), .int .i64 a1, .int .i64 a2, .int .i64 a3, .int .i64 a4, .map (some b)] 45)) w3.heap.size #[.int .i64 (t.size : Int), .int .i64 a1, .int .i64 a2, .int .i64 a3, .int .i64 a4, .map (some b)] 45 from by show (w3.alloc _).heap[w3.heap.size]? = _; rw [heap_alloc_get, if_pos rfl])
  have hbb := (Below.refl w3.heap.size w3).alloc (Nat.le_refl _) (.cells #[.int .i64 (t.size : Int), .int .i64 a1, .int .i64 a2, .int .i64 a3, .int .i64 a4, .map (some b)] 45)
  have X2 := hd (cbox_below R3.out hbb)
  have XR := hd (own_below HR3.out hbb)
  have XB := hd (below_tr hbb HB3.out)
  have XK := hd (known_below HK3.out hbb)
  have HUB := hd (fun k hk => (World.ownsRow.lt HROW.out k hk).2)
  have HBL := hd (known_lt HK3.out)
  have HW2 := hd (show w.heap.size < w2.heap.size from (Array.getElem?_eq_some_iff.1 R2.out).1)
  have LLEN := hd (show l.length = t.size + 1 from HST.out.len)
  clear hbb hI hA hS S0 HB1 HB2 HB3 R1 R2 R3 HR3 HROW HK3
  obtain ⟨g8, hg8⟩ : ∃ g8, g8 = w3.heap.size := ⟨_, rfl⟩
  have XZ := hd (show g8 < (w3.alloc (.cells #[.int .i64 (t.size : Int), .int .i64 a1, .int .i64 a2, .int .i64 a3, .int .i64 a4, .map (some b)] 45)).heap.size by rw [hg8]; simp)
  rw [← hg8] at X8 HBL
  rw [← hg8]
  clear hg8
  go_loopw [9] (fun ix wr => ∃ j : Nat, j ≤ t.size ∧ ix = .int .i64 ((t.size : Int) - 1 - j) ∧ Hid (nfT L t j = none) ∧ Hid (∃ nn, nn ≤ j * 2 ^ j ∧ Known wr L (t.size : Int) b nn) ∧ Hid (CBox wr w.heap.size #[.int .i64 (t.size : Int), .int .i64 a1, .int .i64 a2, .int .i64 a3, .int .i64 a4] 26) ∧ Hid (CBox wr g8 #[.int .i64 (t.size : Int), .int .i64 a1, .int .i64 a2, .int .i64 a3, .int .i64 a4, .map (some b)] 45) ∧ Hid (wr.ownsRow w1.heap.size 48 5 u l.length (sts l)) ∧ Hid (Below w.heap.size w wr) ∧ Hid (g8 < wr.heap.size)) (fun ix _ => (intOf ix + 1).toNat)
  case atStart => exact ⟨0, by omega, by simp, hd rfl, hd ⟨0, by omega, XK.out⟩, X2, X8, XR, XB, XZ⟩
  case round =>
    clear X2 X8 XR XB XK XZ
    obtain ⟨j, hj, rfl, HNF, HKN, C2, C8, HR, HB, HZ⟩ := hrel
    by_cases hjt : j < t.size
    · obtain ⟨k, hk⟩ : ∃ k : Nat, k + 1 + j = t.size := ⟨t.size - 1 - j, by omega⟩
      have hix : (t.size : Int) - 1 - (j : Int) = (k : Int) := by omega
      have hix2 : (k : Int) - 1 = (t.size : Int) - 1 - ((j + 1 : Nat) : Int) := by omega
      have HIX2 := hd hix2
      have hkt : k < t.size := by omega
      have hsub : t.size - (j + 1) = k := by omega
      have HNEXT := hd (show nfT L t (j + 1) = nextAt L t k by rw [nf_step HNF.out, hsub])
      rw [hix]
      clear hix hix2 hsub
      obtain ⟨q, hq2, hcod⟩ := letter_at hkt
      have k1 : (0 : Int) ≤ (k : Int) := by omega
      have k2 : (k : Int) < (t.size : Int) := by omega
      have hk24 : k ≤ 23 := by omega
      have hj23 : j ≤ 23 := by omega
      have HK1 := hd hk
      by_cases hqq : q = 119
      · have HN2 := hd (HNEXT.out.trans (next_w (by rw [hcod, hqq]; rfl)))
        subst hqq
        clear hk
        go_wp2
        go_roundw
        case rel => exact ⟨j + 1, by omega, by rw [HIX2.out], HN2, hd (by obtain ⟨nn, h1, h2⟩ := HKN.out; exact ⟨nn, by have := cap_sum j; omega, h2⟩), C2, C8, HR, HB, HZ⟩
        case measure => simp [intOf]; try omega
      · have hq9 : ((q : Int) == 119) = false := by simp; omega
        have hcod9 : ¬ cod t k = 119 := by rw [hcod]; omega
        obtain ⟨s, hls⟩ : ∃ s, l[k]? = some s := by
          have : k < l.length := by have := LLEN.out; omega
          exact ⟨l[k], List.getElem?_eq_getElem this⟩
        obtain ⟨c1, c2, c3, c4, c5⟩ := HST.out.all k s hls
        obtain ⟨gs, capu, rfl, hcu, s0, s1, s2, s3, s4⟩ := st_cells (cap := 0) HR.out (by have := LLEN.out; unfold maxLen; omega) rfl hls
        obtain ⟨ll, hll⟩ : ∃ ll, ll = l.length := ⟨_, rfl⟩
        have HLL := hd hll
        rw [← hll] at hcu HR LLEN HUB
        rw [← hll]
        have k3 : (k : Int) < (ll : Int) := by have := LLEN.out; omega
        clear hll
        obtain ⟨r0, r1, r2, r3, r4⟩ := cbox_cells5 C2.out
        obtain ⟨p0, p1, p2, p3, _⟩ := id c4
        have hm1 : L.most = a2 ∧ L.row = a3 ∧ L.pause = a4 := by rw [HL.out]; exact ⟨rfl, rfl, rfl⟩
        obtain ⟨hm1, hm2, hm3⟩ := hm1
        rw [hm1] at p1
        rw [hm2] at p2
        rw [hm3] at c3
        have HMAY := hd (abs_may L c4)
        rw [hm1, hm2, hm3] at HMAY
        have HC1 := hd c1
        cases hbb : ((s.bg && (decide (s.rw = 0) && decide (s.ps < a4))) || (decide (s.rw = a3) || decide (s.wk = a2))) with
        | true =>
          have hmf : (absS s.wk s.rw s.ps s.bg).may L = false := by rw [HMAY.out, hbb]; rfl
          have N0 := next_no (t.size : Int) a1 a2 a3 a4 s.sl s.wk s.rw s.ps s.bg (by omega) (by omega) (by omega) hbb
          simp only [stV] at N0
          obtain ⟨c', hc'⟩ : ∃ c' : St, c' = ⟨s.sl + 1, s.wk, s.rw, s.ps, s.bg⟩ := ⟨_, rfl⟩
          have N := hd (show ∀ w', Calls Tryd.prog 17 #[.agg #[.int .i64 (t.size : Int), .int .i64 a1, .int .i64 a2, .int .i64 a3, .int .i64 a4], .agg #[.int .i64 s.sl, .int .i64 s.wk, .int .i64 s.rw, .int .i64 s.ps, .bool s.bg], .bool true] w' fun r w'' => r = .returned (.tuple #[.agg #[.int .i64 c'.sl, .int .i64 c'.wk, .int .i64 c'.rw, .int .i64 c'.ps, .bool c'.bg], .bool false]) ∧ Below w'.heap.size w' w'' from by rw [hc']; exact N0)
          have HN2 := hd (HNEXT.out.trans (next_n c5 hmf))
          clear N0 hc' hmf hbb c5 c4 c3 c2 c1 p0 p1 p2 p3 hcod hcod9 hls hk hm1 hm2 hm3
          have o_r0 := fun X => Lib.cell?_alloc_some X r0
          have o_r1 := fun X => Lib.cell?_alloc_some X r1
          have o_r2 := fun X => Lib.cell?_alloc_some X r2
          have o_r3 := fun X => Lib.cell?_alloc_some X r3
          have o_r4 := fun X => Lib.cell?_alloc_some X r4
          have o_s0 := fun X => Lib.cell?_alloc_some X s0
          have o_s1 := fun X => Lib.cell?_alloc_some X s1
          have o_s2 := fun X => Lib.cell?_alloc_some X s2
          have o_s3 := fun X => Lib.cell?_alloc_some X s3
          have o_s4 := fun X => Lib.cell?_alloc_some X s4
          go_wp2
          go_region_with (first
            | (go_at_call 17; refine (N.out ((wr.alloc (.cells #[.int .i64 0, .int .i64 0, .int .i64 0, .int .i64 0, .bool false] 48)).drew)).mono ?_; rintro e w4 ⟨rfl, hb4'⟩; have hb4 : Below (wr.alloc (.cells #[.int .i64 0, .int .i64 0, .int .i64 0, .int .i64 0, .bool false] 48)).heap.size (wr.alloc (.cells #[.int .i64 0, .int .i64 0, .int .i64 0, .int .i64 0, .bool false] 48)) w4 := below_tr hb4' (Below.refl _ _).drew; clear hb4'; have HA1 := hd (cbox_below (show CBox (wr.alloc (.cells #[.int .i64 0, .int .i64 0, .int .i64 0, .int .i64 0, .bool false] 48)) wr.heap.size #[.int .i64 0, .int .i64 0, .int .i64 0, .int .i64 0, .bool false] 48 from by show (wr.alloc _).heap[wr.heap.size]? = _; rw [heap_alloc_get, if_pos rfl]) hb4); have HB4 := hd (below_tr hb4 ((Below.refl wr.heap.size wr).alloc (Nat.le_refl _) _)); clear hb4; obtain ⟨y0, y1, y2, y3, y4⟩ := cbox_cells5 HA1.out; obtain ⟨z0, z1, z2, z3, z4⟩ := cbox_free5 HA1.out)
            | (go_at_call 17; refine (N.out wr.drew).mono ?_; rintro e w4 ⟨rfl, hb4'⟩; have HB4 := hd (below_tr hb4' (Below.refl _ _).drew : Below wr.heap.size wr w4); have HA2 := hd (Below.refl w4.heap.size w4); clear hb4'))
          all_goals
            first
            | (have hA1 := HA1.out
               obtain ⟨w5, hw5⟩ : ∃ w5, w5 = set5 w4 wr.heap.size (.int .i64 c'.sl) (.int .i64 c'.wk) (.int .i64 c'.rw) (.int .i64 c'.ps) (.bool c'.bg) := ⟨_, rfl⟩
               have X7 := hd (show CBox w5 wr.heap.size #[.int .i64 c'.sl, .int .i64 c'.wk, .int .i64 c'.rw, .int .i64 c'.ps, .bool c'.bg] 48 by rw [hw5]; exact set5_heap hA1 _ _ _ _ _)
               have HB5 := hd (show Below wr.heap.size wr w5 by rw [hw5]; exact below_row (set5_grown w4 wr.heap.size _ _ _ _ _) HB4.out (fun q hq => by cases hq; exact Nat.le_refl _))
               simp only [set5] at hw5
               rw [← hw5]
               clear hw5 hA1 HA1 y0 y1 y2 y3 y4 z0 z1 z2 z3 z4
               clear r0 r1 r2 r3 r4 s0 s1 s2 s3 s4 o_r0 o_r1 o_r2 o_r3 o_r4 o_s0 o_s1 o_s2 o_s3 o_s4
               obtain ⟨g7, hg7⟩ : ∃ g7, g7 = wr.heap.size := ⟨_, rfl⟩
               rw [← hg7] at X7
               rw [← hg7]
               have HG7 := hd (show wr.heap.size ≤ g7 by rw [hg7]; exact Nat.le_refl _)
               clear hg7)
            | (have hA2 := HA2.out
               obtain ⟨w5, hw5⟩ : ∃ w5, w5 = w4.alloc (.cells #[.int .i64 c'.sl, .int .i64 c'.wk, .int .i64 c'.rw, .int .i64 c'.ps, .bool c'.bg] 48) := ⟨_, rfl⟩
               have X7 := hd (show CBox w5 w4.heap.size #[.int .i64 c'.sl, .int .i64 c'.wk, .int .i64 c'.rw, .int .i64 c'.ps, .bool c'.bg] 48 by rw [hw5]; show (w4.alloc _).heap[w4.heap.size]? = _; rw [heap_alloc_get, if_pos rfl])
               have HB5 := hd (show Below wr.heap.size wr w5 by rw [hw5]; exact below_tr ((Below.refl w4.heap.size w4).alloc (Nat.le_refl _) _) HB4.out)
               rw [← hw5]
               clear hw5 hA2 HA2
               clear r0 r1 r2 r3 r4 s0 s1 s2 s3 s4 o_r0 o_r1 o_r2 o_r3 o_r4 o_s0 o_s1 o_s2 o_s3 o_s4
               obtain ⟨g7, hg7⟩ : ∃ g7, g7 = w4.heap.size := ⟨_, rfl⟩
               rw [← hg7] at X7
               rw [← hg7]
               have HG7 := hd (show wr.heap.size ≤ g7 by rw [hg7]; exact HB4.out.size)
               clear hg7)
            have HBW := hd (below_tr HB5.out HB.out)
            go_wp2
            go_roundw
            case rel => exact ⟨j + 1, by omega, by rw [HIX2.out], HN2, hd (by obtain ⟨nn, h1, h2⟩ := HKN.out; exact ⟨nn, by have := cap_sum j; omega, known_below h2 HB5.out⟩), hd (cbox_below C2.out HB5.out), hd (cbox_below C8.out HB5.out), hd (own_below HR.out HB5.out), HBW, hd (Nat.lt_of_lt_of_le HZ.out HB5.out.size)⟩
            case measure => simp [intOf]; try omega
        | false =>
          have hmt : (absS s.wk s.rw s.ps s.bg).may L = true := by rw [HMAY.out, hbb]; rfl
          have N0 := next_yes (t.size : Int) a1 a2 a3 a4 s.sl s.wk s.rw s.ps s.bg (by omega) (by omega) (by omega) c2 (by omega) p3 (by omega) hbb
          simp only [stV] at N0
          have hgood := good_on L c4 hmt
          have hny := HNEXT.out.trans (next_y hcod9 c5 hmt)
          rw [show t.size - (k + 1) = j by omega] at hny
          have hps : (preB t k ++ ⟨#[119]⟩).size = k + 1 := by rw [ByteArray.size_append, pre_size (by omega)]; rfl
          obtain ⟨lf, hlf⟩ : ∃ lf, lf = listS L j (absS s.wk s.rw s.ps s.bg).on (preB t k ++ ⟨#[119]⟩) := ⟨_, rfl⟩
          rw [← hlf] at hny
          have I0 : ∀ (W : World) (nn p : Nat), nn ≤ j * 2 ^ j → b < p → Known W L (t.size : Int) b nn → p ≤ W.heap.size → W.ownsRow p 9 1 (.slice (some ⟨p, 0, none⟩) 0 0) 0 [] →
              Calls Tryd.prog 18 #[.agg #[.int .i64 (t.size : Int), .int .i64 a1, .int .i64 a2, .int .i64 a3, .int .i64 a4, .map (some b)], .slice (some ⟨p, 0, none⟩) 0 0, .string (t.extract 0 k ++ ⟨#[119]⟩), .agg #[.int .i64 (s.sl + 1), .int .i64 (s.wk + 1), .int .i64 (s.rw + 1), .int .i64 0, .bool true], .int .i64 1] W fun e w' => ∃ u, e = .returned u ∧ w'.ownsRow p 9 1 u (fillS 1 [] lf).length (strs (fillS 1 [] lf)) ∧ (∃ n', n' ≤ nn + capN j ∧ Known w' L (t.size : Int) b n') ∧ Grew W w' (some b) (.slice (some ⟨p, 0, none⟩) 0 0) ∧ Later W (.slice (some ⟨p, 0, none⟩) 0 0) u := by
            intro W nn p hnn hbp hK hB ho
            have hL := HL.out
            subst hL
            have := list_any (t.size : Int) a1 a2 a3 a4 b p 1 hbp b1 b2 b3 b4 b5 (by omega) j nn (preB t k ++ ⟨#[119]⟩) (s.sl + 1) (s.wk + 1) (s.rw + 1) 0 true (.slice (some ⟨p, 0, none⟩) 0 0) [] W (by omega) (by omega) (by omega) (by omega) hgood hK (by have := cap_sum j; have := cap_bd hj23; omega) (by rw [hps]; omega) (by simp) hB ho
            rw [show absS (s.wk + 1) (s.rw + 1) 0 true = (absS s.wk s.rw s.ps s.bg).on from rfl, ← hlf] at this
            exact this
          obtain ⟨c', hc'⟩ : ∃ c' : St, c' = ⟨s.sl + 1, s.wk + 1, s.rw + 1, 0, true⟩ := ⟨_, rfl⟩
          have N := hd (show ∀ w', Calls Tryd.prog 17 #[.agg #[.int .i64 (t.size : Int), .int .i64 a1, .int .i64 a2, .int .i64 a3, .int .i64 a4], .agg #[.int .i64 s.sl, .int .i64 s.wk, .int .i64 s.rw, .int .i64 s.ps, .bool s.bg], .bool true] w' fun r w'' => r = .returned (.tuple #[.agg #[.int .i64 c'.sl, .int .i64 c'.wk, .int .i64 c'.rw, .int .i64 c'.ps, .bool c'.bg], .bool true]) ∧ Below w'.heap.size w' w'' from by rw [hc']; exact N0)
          obtain ⟨fl, hfl⟩ : ∃ fl, fl = fillS 1 [] lf := ⟨_, rfl⟩
          have I := hd (show ∀ (W : World) (nn p : Nat), nn ≤ j * 2 ^ j → b < p → Known W L (t.size : Int) b nn → p ≤ W.heap.size → W.ownsRow p 9 1 (.slice (some ⟨p, 0, none⟩) 0 0) 0 [] →
              Calls Tryd.prog 18 #[.agg #[.int .i64 (t.size : Int), .int .i64 a1, .int .i64 a2, .int .i64 a3, .int .i64 a4, .map (some b)], .slice (some ⟨p, 0, none⟩) 0 0, .string (t.extract 0 k ++ ⟨#[119]⟩), .agg #[.int .i64 c'.sl, .int .i64 c'.wk, .int .i64 c'.rw, .int .i64 c'.ps, .bool c'.bg], .int .i64 1] W fun e w' => ∃ u, e = .returned u ∧ w'.ownsRow p 9 1 u fl.length (strs fl) ∧ (∃ n', n' ≤ nn + capN j ∧ Known w' L (t.size : Int) b n') ∧ Grew W w' (some b) (.slice (some ⟨p, 0, none⟩) 0 0) ∧ Later W (.slice (some ⟨p, 0, none⟩) 0 0) u from by rw [hc', hfl]; exact I0)
          have HFL := hd hfl
          have HNY := hd hny
          clear N0 I0 hc' hmt hbb c5 c4 c3 c2 c1 p0 p1 p2 p3 hcod hcod9 hls hk hm1 hm2 hm3 hgood hny hps hlf hfl
          obtain ⟨nn, hnn1, hnn2⟩ := HKN.out
          have HNN1 := hd hnn1
          have HNN2 := hd hnn2
          clear hnn1 hnn2
          have hcs := HC1.out
          clear hcs
          have FOC := hd (fill_one_cases (l := lf))
          have HFN := hd (show fl.length ≤ 1 by rw [HFL.out]; rcases FOC.out with ⟨_, e⟩ | ⟨x, _, e⟩ <;> rw [e] <;> simp)
          obtain ⟨fn, hfn⟩ : ∃ fn, fn = fl.length := ⟨_, rfl⟩
          rw [← hfn] at I HFN
          have HFLN := hd hfn
          clear hfn
          have o_r0 := fun X => Lib.cell?_alloc_some X r0
          have o_r1 := fun X => Lib.cell?_alloc_some X r1
          have o_r2 := fun X => Lib.cell?_alloc_some X r2
          have o_r3 := fun X => Lib.cell?_alloc_some X r3
          have o_r4 := fun X => Lib.cell?_alloc_some X r4
          have o_s0 := fun X => Lib.cell?_alloc_some X s0
          have o_s1 := fun X => Lib.cell?_alloc_some X s1
          have o_s2 := fun X => Lib.cell?_alloc_some X s2
          have o_s3 := fun X => Lib.cell?_alloc_some X s3
          have o_s4 := fun X => Lib.cell?_alloc_some X s4
          go_wp2
          go_region_with (first
            | (go_at_call 17; refine (N.out ((wr.alloc (.cells #[.int .i64 0, .int .i64 0, .int .i64 0, .int .i64 0, .bool false] 48)).drew)).mono ?_; rintro e w4 ⟨rfl, hb4'⟩; have hb4 : Below (wr.alloc (.cells #[.int .i64 0, .int .i64 0, .int .i64 0, .int .i64 0, .bool false] 48)).heap.size (wr.alloc (.cells #[.int .i64 0, .int .i64 0, .int .i64 0, .int .i64 0, .bool false] 48)) w4 := below_tr hb4' (Below.refl _ _).drew; clear hb4'; have HA1 := hd (cbox_below (show CBox (wr.alloc (.cells #[.int .i64 0, .int .i64 0, .int .i64 0, .int .i64 0, .bool false] 48)) wr.heap.size #[.int .i64 0, .int .i64 0, .int .i64 0, .int .i64 0, .bool false] 48 from by show (wr.alloc _).heap[wr.heap.size]? = _; rw [heap_alloc_get, if_pos rfl]) hb4); have HB4 := hd (below_tr hb4 ((Below.refl wr.heap.size wr).alloc (Nat.le_refl _) _)); clear hb4; obtain ⟨y0, y1, y2, y3, y4⟩ := cbox_cells5 HA1.out; obtain ⟨z0, z1, z2, z3, z4⟩ := cbox_free5 HA1.out)
            | (go_at_call 17; refine (N.out wr.drew).mono ?_; rintro e w4 ⟨rfl, hb4'⟩; have HB4 := hd (below_tr hb4' (Below.refl _ _).drew : Below wr.heap.size wr w4); have HA2 := hd (Below.refl w4.heap.size w4); clear hb4'))
          all_goals
            first
            | (have hA1 := HA1.out
               obtain ⟨w5, hw5⟩ : ∃ w5, w5 = set5 w4 wr.heap.size (.int .i64 c'.sl) (.int .i64 c'.wk) (.int .i64 c'.rw) (.int .i64 c'.ps) (.bool c'.bg) := ⟨_, rfl⟩
               have X7 := hd (show CBox w5 wr.heap.size #[.int .i64 c'.sl, .int .i64 c'.wk, .int .i64 c'.rw, .int .i64 c'.ps, .bool c'.bg] 48 by rw [hw5]; exact set5_heap hA1 _ _ _ _ _)
               have HB5 := hd (show Below wr.heap.size wr w5 by rw [hw5]; exact below_row (set5_grown w4 wr.heap.size _ _ _ _ _) HB4.out (fun q hq => by cases hq; exact Nat.le_refl _))
               simp only [set5] at hw5
               rw [← hw5]
               clear hw5 hA1 HA1 y0 y1 y2 y3 y4 z0 z1 z2 z3 z4
               clear r0 r1 r2 r3 r4 s0 s1 s2 s3 s4 o_r0 o_r1 o_r2 o_r3 o_r4 o_s0 o_s1 o_s2 o_s3 o_s4
               obtain ⟨g7, hg7⟩ : ∃ g7, g7 = wr.heap.size := ⟨_, rfl⟩
               rw [← hg7] at X7
               rw [← hg7]
               have HG7 := hd (show wr.heap.size ≤ g7 by rw [hg7]; exact Nat.le_refl _)
               clear hg7)
            | (have hA2 := HA2.out
               obtain ⟨w5, hw5⟩ : ∃ w5, w5 = w4.alloc (.cells #[.int .i64 c'.sl, .int .i64 c'.wk, .int .i64 c'.rw, .int .i64 c'.ps, .bool c'.bg] 48) := ⟨_, rfl⟩
               have X7 := hd (show CBox w5 w4.heap.size #[.int .i64 c'.sl, .int .i64 c'.wk, .int .i64 c'.rw, .int .i64 c'.ps, .bool c'.bg] 48 by rw [hw5]; show (w4.alloc _).heap[w4.heap.size]? = _; rw [heap_alloc_get, if_pos rfl])
               have HB5 := hd (show Below wr.heap.size wr w5 by rw [hw5]; exact below_tr ((Below.refl w4.heap.size w4).alloc (Nat.le_refl _) _) HB4.out)
               rw [← hw5]
               clear hw5 hA2 HA2
               clear r0 r1 r2 r3 r4 s0 s1 s2 s3 s4 o_r0 o_r1 o_r2 o_r3 o_r4 o_s0 o_s1 o_s2 o_s3 o_s4
               obtain ⟨g7, hg7⟩ : ∃ g7, g7 = w4.heap.size := ⟨_, rfl⟩
               rw [← hg7] at X7
               rw [← hg7]
               have HG7 := hd (show wr.heap.size ≤ g7 by rw [hg7]; exact HB4.out.size)
               clear hg7)
            have HBW := hd (below_tr HB5.out HB.out)
            have C85 := hd (cbox_below C8.out HB5.out)
            have C25 := hd (cbox_below C2.out HB5.out)
            have HR5 := hd (own_below HR.out HB5.out)
            have HK5 := hd (known_below HNN2.out HB5.out)
            have HZ5 := hd (show g8 < w5.heap.size from Nat.lt_of_lt_of_le HZ.out HB5.out.size)
            have hcut : (0 : Int) ≤ (k : Int) ∧ (k : Int) ≤ (t.size : Int) := ⟨by omega, by omega⟩
            have hcut1 := hcut.1
            have hcut2 := hcut.2
            go_wp2
            obtain ⟨t0, t1, t2, t3, t4, t5⟩ := cbox_cells6 C85.out
            obtain ⟨y0, y1, y2, y3, y4⟩ := cbox_cells5 X7.out
            have o_t0 := fun X => Lib.cell?_alloc_some X t0
            have o_t1 := fun X => Lib.cell?_alloc_some X t1
            have o_t2 := fun X => Lib.cell?_alloc_some X t2
            have o_t3 := fun X => Lib.cell?_alloc_some X t3
            have o_t4 := fun X => Lib.cell?_alloc_some X t4
            have o_t5 := fun X => Lib.cell?_alloc_some X t5
            have o_y0 := fun X => Lib.cell?_alloc_some X y0
            have o_y1 := fun X => Lib.cell?_alloc_some X y1
            have o_y2 := fun X => Lib.cell?_alloc_some X y2
            have o_y3 := fun X => Lib.cell?_alloc_some X y3
            have o_y4 := fun X => Lib.cell?_alloc_some X y4
            go_region_with (go_at_call 18; refine (I.out ((w5.alloc (.cells #[] 9)).drew) nn w5.heap.size HNN1.out (by have := HBL.out; have := HZ5.out; omega) ?_ ?_ ?_).mono ?_; exact known_drew (known_below HK5.out ((Below.refl w5.heap.size w5).alloc (Nat.le_refl _) _)); exact (((Below.refl w5.heap.size w5).alloc (Nat.le_refl _) (.cells #[] 9)).drew).size; exact (own_drwB (World.ownsRow_made (size := 1) w5 #[] 0 (Nat.le_refl _) (by unfold maxLen; omega) rfl (e := 9)) 1); rintro e w6 ⟨u6, rfl, ho6, ⟨n6, hn6, hk6⟩, hg6, hl6⟩; have HK6 := hd hk6; have HN6 := hd hn6; have HG6 := hd ((Grew.of_below (((Below.refl w5.heap.size w5).alloc (Nat.le_refl _) (.cells #[] 9)).drew) (some b) (.slice (some ⟨w5.heap.size, 0, none⟩) 0 0)).trans hg6 (Later.refl _ _)); clear hk6 hn6 hg6 hl6; obtain ⟨A6, cap6, rfl, hcap6, hrd6, _⟩ := own_rd ho6 (by have := HFN.out; unfold maxLen; omega); have HRD6 := hd hrd6; clear hrd6 ho6)
            all_goals
              have NV : ∀ g, g < w5.heap.size → (Value.slice (some ⟨w5.heap.size, 0, none⟩) 0 0).ownBlock ≠ some g := fun g h e => by have e2 : w5.heap.size = g := (by simpa [Value.ownBlock] using e); omega
              have HNV := hd NV
              clear NV t0 t1 t2 t3 t4 t5 y0 y1 y2 y3 y4 o_t0 o_t1 o_t2 o_t3 o_t4 o_t5 o_y0 o_y1 o_y2 o_y3 o_y4
              have HBW6 := hd (below_of_grew HBW.out HG6.out (fun q hq => by have := HG3.out; have := HW2.out; cases hq; omega) (fun q hq => by have e : w5.heap.size = q := (by simpa [Value.ownBlock] using hq); have := HBW.out.size; omega))
              rcases FOC.out with ⟨h1, h2⟩ | ⟨x, h1, h2⟩
              · have e : fn = 0 := by rw [HFLN.out, HFL.out, h2]; rfl
                subst e
                have HN2 := hd (HNY.out.trans h1)
                clear h1 h2 HRD6
                go_wp2
                go_roundw
                case rel => exact ⟨j + 1, by omega, by rw [HIX2.out], HN2, hd ⟨n6, by have := HN6.out; have := HNN1.out; have := cap_sum j; omega, HK6.out⟩, hd (cbox_grew C25.out HG6.out (fun e => by have e := Option.some.inj e; have := HG3.out; have := HW2.out; omega) (HNV.out _ (by have := HZ5.out; have := HBL.out; have := HG3.out; have := HW2.out; omega))), hd (cbox_grew C85.out HG6.out (fun e => by have e := Option.some.inj e; have := HBL.out; omega) (HNV.out _ HZ5.out)), hd (own_grew HR5.out HG6.out (fun q hq => ⟨fun e => by have e := Option.some.inj e; have := HUB.out q hq; have := HG3.out; omega, HNV.out q (by have := HUB.out q hq; have := HG3.out; have := HBL.out; have := HZ5.out; omega)⟩)), HBW6, hd (Nat.lt_of_lt_of_le HZ5.out HG6.out.size)⟩
                case measure => simp [intOf]; try omega
              · have e : fn = 1 := by rw [HFLN.out, HFL.out, h2]; rfl
                subst e
                have HN2 := hd (NS.out x (nf_some (HNY.out.trans h1) t.size (by omega)))
                obtain ⟨bb, off, rfl, hcl⟩ := HRD6.out.2.2 (by simp)
                have hx0 : w6.cell? ⟨bb, off, none⟩ = some (.string x) := hcl 0 (.string x) (by rw [HFL.out, h2]; rfl)
                clear h1 h2 hcl
                go_wp2
                go_ret2
                rw [HN2.out]
                exact ⟨rfl, HBW6.out⟩
    · have e : j = t.size := by omega
      subst e
      have HE := hd (NN.out HNF.out)
      have hix : (t.size : Int) - 1 - (t.size : Int) = -1 := by omega
      rw [hix]
      clear hix
      go_wp2
      go_ret2
      rw [HE.out]
      exact ⟨rfl, HB.out⟩
end Go.Proofs.YtmjdhignhdphpaaDoor
