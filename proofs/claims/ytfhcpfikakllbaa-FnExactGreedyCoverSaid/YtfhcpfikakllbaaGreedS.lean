/- GreedyCover, the reference's side. -/
import Derived.Test.YtfhcpfikakllbaaProg
import Derived.Test.YtfhcpfikakllbaaGreedM
namespace Go.Proofs.Ytfhcpfikakllbaa
open Go.RowKit Plain
set_option linter.unusedVariables false
set_option linter.unusedSimpArgs false
attribute [local go_sem ↓] Go.wp_at_zero Go.wp_at_succ

theorem grown_of {w w' : World} {v : Value} (h : Grew w w' none v) : w.grownBy w' v.ownBlock := ⟨h.os, h.tape, h.output, h.size, fun k hk hne => h.block k hk (by simp) (fun e => hne e.symm)⟩
theorem many_no {ns : List Int} {m : Int} {k : Nat} (hk : k < ns.length) (h : inR (ns.getD k 0) 0 100 = false) : manyIn ns m m 0 100 = false := by
  have : ns.all (inR · 0 100) = false := by
    rw [List.getD_eq_getElem?_getD, List.getElem?_eq_getElem hk] at h
    exact all_false (p := (inR · 0 100)) hk h
  rw [manyIn, this]; simp
theorem many_yes {ns : List Int} {m : Int} (hm : (ns.length : Int) = m) (h : ∀ j, j < ns.length → 0 ≤ ns.getD j 0 ∧ ns.getD j 0 ≤ 100) : manyIn ns m m 0 100 = true := by
  have : ns.all (inR · 0 100) = true := by
    rw [List.all_eq_true]
    intro x hx
    obtain ⟨j, hj, rfl⟩ := List.getElem_of_mem hx
    have := h j hj
    rw [List.getD_eq_getElem?_getD, List.getElem?_eq_getElem hj] at this
    exact inR_iff.2 this
  rw [manyIn, this, decide_eq_true (by omega), decide_eq_true (by omega)]; rfl
theorem dj_later {w w3 W : World} {B n : Nat} {e : TypeId} {xs : List Value} {v u x : Value} (h : w.ownsRow B e 1 x n xs) (hs : w.heap.size ≤ w3.heap.size) (hv : v.ownBlock = some w3.heap.size) (hl : Later W v u) (hW : w3.heap.size ≤ W.heap.size) : Dj x u := by
  intro k h1 h2
  have hx := (World.ownsRow.lt h k h1).2
  rcases hl k h2 with h3 | h3
  · rw [hv] at h3
    have := Option.some.inj h3
    omega
  · omega
set_option maxHeartbeats 4000000 in
set_option maxRecDepth 100000 in
theorem specGreedy_no (w : World) (r : SR) (v : Value) (ns : List Int) (b0 : ns.length ≤ 1048576) (s0 : Sl w 1 v ns.length (ns.map vi)) (hok : validS r = false ∨ ¬ (ns.length : Int) = r.slots) :
    Calls Try.prog 4 #[r.val, v] w (Out3 [] [] false w) := by
  have A1 := hd (fun W h => l06Is_any r w.heap.size 0 W h)
  have S0 := hd (srat_box w r 28)
  obtain ⟨A, cap, rfl, hcap, _⟩ := s0
  cases hv : validS r with
  | false =>
    rw [hv] at A1
    clear hv hok
    obtain ⟨a0, a1, a2, a3, a4⟩ := r
    simp only [SR.val] at *
    go_enter Try.func4, Try.ntmps4
    go_wp2_with (go_at_call 14; refine (A1.out _ S0.out).mono ?_; rintro e w' ⟨rfl, m, rfl⟩)
    go_ret3
    exact ⟨_, _, rfl, World.ownsRow_nil _ _ _ _, World.ownsRow_nil _ _ _ _, fun k h => by simp [Value.ownBlock] at h, below_drewN ((Below.refl w.heap.size w).alloc (Nat.le_refl _) _) m⟩
  | true =>
    have hl : ¬ (ns.length : Int) = r.slots := hok.resolve_left (by rw [hv]; simp)
    have hr := (validS_iff.1 hv).1
    rw [hv] at A1
    clear hv hok
    obtain ⟨a0, a1, a2, a3, a4⟩ := r
    simp only [SR.val] at *
    generalize ns.length = S at *
    have hne : ((S : Int) != a0) = true := by simp; exact hl
    go_enter Try.func4, Try.ntmps4
    go_wp2_with (go_at_call 14; refine (A1.out _ S0.out).mono ?_; rintro e w' ⟨rfl, m, rfl⟩)
    go_ret3
    exact ⟨_, _, rfl, World.ownsRow_nil _ _ _ _, World.ownsRow_nil _ _ _ _, fun k h => by simp [Value.ownBlock] at h, below_drewN ((Below.refl w.heap.size w).alloc (Nat.le_refl _) _) m⟩

set_option maxHeartbeats 8000000 in
set_option maxRecDepth 100000 in
theorem specGreedy_yes (w : World) (r : SR) (v : Value) (ns : List Int) (b0 : ns.length ≤ 1048576) (s0 : Sl w 1 v ns.length (ns.map vi)) (hv : validS r = true) (hlen : (ns.length : Int) = r.slots) :
    Calls Try.prog 4 #[r.val, v] w (Out3 (gM r ns).1 (gM r ns).2.1 (gM r ns).2.2 w) := by
  have A1 := hd (fun W h => l06Is_any r w.heap.size 0 W h)
  have S0 := hd (srat_box w r 28)
  have BAD := hd (fun k (hk : k < ns.length) h => gM_no (r := r) (ns := ns) (by rw [okG, many_no hk h, Bool.and_false]))
  have OK := hd (fun h => (show okG r ns = true by rw [okG, hv, many_yes hlen h]; rfl))
  have GN := hd (fun h h2 => gM_none (r := r) (ns := ns) (OK.out h) h2)
  have GS := hd (fun c h h2 => gM_some (r := r) (ns := ns) (c := c) (OK.out h) h2)
  obtain ⟨b1, b2, b3, b4, b5⟩ := valid_bd hv
  rw [hv] at A1
  have A3 := hd (fun w' v hr ho hB => l06List_any w.heap.size 0 r (w.heap.size + 1) 64 (by omega) b1.2 b2 b3 b4 b5 (by omega) r.slots.toNat ⟨#[]⟩ 0 0 (-1) v [] w' hr (okR_start b3.1 (show 0 ≤ r.row by omega)) (by omega) (by show (0 : Int) + _ = _; omega) b1.1 (by simp) hB ho)
  have E := hd (show fillS 64 [] (listS (limS r) r.slots.toNat ((⟨0, 0, -1⟩ : ShiftPt).cut (limS r)) ⟨#[]⟩) = allF r 64 from rfl)
  rw [E.out] at A3
  have TL := allF_len r 64
  have TS := hd (fun k (hk : k < (allF r 64).length) => show ((allF r 64).getD k ⟨#[]⟩).size = ns.length by
    rw [List.getD_eq_getElem?_getD, List.getElem?_eq_getElem hk]
    have := allF_size (r := r) (n := 64) (by omega) (List.getElem_mem hk)
    show ((allF r 64)[k]).size = _
    omega)
  have RG := hd (show runG r ns = greedyF (allF r 64) ns.length 2401 (fun _ => 0) (fun j => ns.getD j 0) from rfl)
  generalize runG r ns = R at *
  generalize allF r 64 = ts at *
  have LO := hd (lst_of ns)
  have h0 : 0 < ns.length := by omega
  have h24 : ns.length ≤ 24 := by omega
  obtain ⟨An, cn, rfl, hcn, hrn⟩ := s0
  have hrn2 := hd (fun w' (h : Below w.heap.size w w') => hrn.below h)
  clear b2 b3 b4 b5 b0 OK hv E hrn
  obtain ⟨S, hS⟩ : ∃ S, S = ns.length := ⟨_, rfl⟩
  rw [← hS] at TS RG LO h0 h24 BAD GN GS hlen hcn hrn2
  rw [← hS]
  clear hS
  obtain ⟨N, hN⟩ : ∃ N, N = ts.length := ⟨_, rfl⟩
  rw [← hN] at TS TL A3 GS
  have HN := hd hN
  clear hN
  obtain ⟨f0, hf0⟩ : ∃ f0 : Nat → Int, f0 = fun j => ns.getD j 0 := ⟨_, rfl⟩
  have BAD2 := hd (fun k (hk : k < S) (h : inR (f0 k) 0 100 = false) => BAD.out k hk (by rw [hf0] at h; exact h))
  have GN2 := hd (fun (h : ∀ j, j < S → 0 ≤ f0 j ∧ f0 j ≤ 100) h2 => GN.out (by rw [hf0] at h; exact h) h2)
  have GS2 := hd (fun c (h : ∀ j, j < S → 0 ≤ f0 j ∧ f0 j ≤ 100) h2 => GS.out c (by rw [hf0] at h; exact h) h2)
  rw [← hf0] at RG LO
  clear hf0 BAD GN GS
  obtain ⟨a0, a1, a2, a3, a4⟩ := r
  simp only [SR.val] at *
  have hne : ((S : Int) != a0) = false := by simp; exact hlen
  clear hlen
  obtain ⟨lo, hlo⟩ : ∃ l, l = ns.map vi := ⟨_, rfl⟩
  go_enter Try.func4, Try.ntmps4
  go_wp2_with (first
    | (go_at_call 14; refine (A1.out _ S0.out).mono ?_; rintro e w1 ⟨rfl, m, hw1⟩; have S1 := hd (show SRat w1 w.heap.size 0 ⟨a0, a1, a2, a3, a4⟩ by rw [hw1]; exact srat_drewN S0.out m); have HB1 := hd (show Below w.heap.size w w1 by rw [hw1]; exact below_drewN ((Below.refl w.heap.size w).alloc (Nat.le_refl _) (.cells #[.int .i64 a0, .int .i64 a1, .int .i64 a2, .int .i64 a3, .int .i64 a4] 28)) m); clear hw1; obtain ⟨r0, r1, r2, r3, r4⟩ := S1.out; simp only at r0 r1 r2 r3 r4)
    | (at_builtin; go_must (refine wpList_app_all_int _ rfl _ _ rfl w1.heap.size 0 _ _ rfl (World.ownsRow_made (size := 1) w1 #[] 0 (Nat.le_refl _) (by unfold maxLen; omega) rfl (e := 2)) _ S cn ns rfl (hrn2.out _ (below_tr ((Below.refl _ _).alloc (Nat.le_refl _) _) HB1.out)) h0 (by omega) (by simp) ?_); intro u2 w2 ho2 hg2 hap2 hu2))
  have HB12 := hd (show Below w1.heap.size w1 w2 from ((Below.refl _ w1).alloc (Nat.le_refl _) _).grown hg2 (by simp) (own_row (World.ownsRow_made (size := 1) w1 #[] 0 (Nat.le_refl _) (by unfold maxLen; omega) rfl (e := 2)) (Nat.le_refl _)))
  have ho2' : w2.ownsRow w1.heap.size 2 1 u2 S (ns.map vi) := by simpa using ho2
  have HO2 := hd (own_mono ho2' (show w.heap.size + 1 ≤ w1.heap.size from block_lt_of_cell S1.out.c0))
  clear ho2 ho2' hg2 hap2 hu2
  have HB2 := hd (below_tr HB12.out HB1.out)
  have S2 := hd (S1.out.below HB12.out)
  obtain ⟨A2', cap2, rfl, hc2, _, hA2⟩ := own_rd HO2.out (by unfold maxLen; omega)
  obtain ⟨g2, rfl, hg2⟩ : ∃ g, A2' = some ⟨g, 0, none⟩ ∧ w.heap.size + 1 ≤ g := by
    rcases hA2 with ⟨rfl, rfl⟩ | ⟨g, h, h', _⟩
    · omega
    · exact ⟨g, h, h'⟩
  rw [← LO.out] at HO2
  clear hA2 A1 S0 LO hrn2 r0 r1 r2 r3 r4 S1 HB1 HB12 hc2
  go_loop [8, 9] (fun sm ix => ∃ i : Nat, i ≤ S ∧ ix = .int .i64 i ∧ sm = .int .i64 (sumF f0 i) ∧ Hid (∀ j, j < i → 0 ≤ f0 j ∧ f0 j ≤ 100)) (fun _ ix => S - (intOf ix).toNat)
  case atStart => exact ⟨0, by omega, rfl, rfl, hd (fun j hj => absurd hj (by omega))⟩
  case round =>
    obtain ⟨i, hi, rfl, rfl, HP⟩ := hrel
    by_cases hlt : i < S
    · have fi := row_cell HO2.out hlt
      have i1 : (0 : Int) ≤ (i : Int) := by omega
      have i2 : (i : Int) < (S : Int) := by omega
      have I := hd (l00In_any (f0 i) 0 100 w2)
      have s0 := sum_nonneg f0 i
      have s1 : sumF f0 i ≤ 2400 := by have := sum_le (f := f0) (B := 100) (by omega) i (fun j hj => (HP.out j hj).2); omega
      have B2 := hd (BAD2.out i hlt)
      have SS := hd (show sumF f0 (i + 1) = sumF f0 i + max (f0 i) 0 from rfl)
      cases hin : inR (f0 i) 0 100 with
      | false =>
        rw [hin] at I
        have HE := hd (B2.out hin)
        clear hin
        generalize f0 i = fi' at *
        go_wp2_with (go_at_call 15; refine I.out.mono ?_; rintro e w' ⟨rfl, hw⟩; subst hw)
        go_ret3
        rw [HE.out]
        exact ⟨_, _, rfl, World.ownsRow_nil _ _ _ _, World.ownsRow_nil _ _ _ _, fun k h => by simp [Value.ownBlock] at h, HB2.out⟩
      | true =>
        rw [hin] at I
        obtain ⟨n1, n2⟩ := inR_iff.1 hin
        have HP2 := hd (show ∀ j, j < i + 1 → 0 ≤ f0 j ∧ f0 j ≤ 100 from fun j hj => by
          by_cases e : j = i
          · subst e; exact ⟨n1, n2⟩
          · exact HP.out j (by omega))
        clear hin B2
        generalize f0 i = fi' at *
        generalize sumF f0 i = si at *
        have HSS := hd (show sumF f0 (i + 1) = si + fi' by rw [SS.out]; omega)
        clear SS
        go_wp2_with (go_at_call 15; refine I.out.mono ?_; rintro e w' ⟨rfl, hw⟩; subst hw)
        go_round
        case rel => exact ⟨i + 1, by omega, by go_num, by rw [HSS.out], HP2⟩
        case measure => simp [intOf]; omega
    · have e : i = S := by omega
      subst e
      have GNN := hd (GN2.out HP.out)
      have GSS := hd (fun c => GS2.out c HP.out)
      clear GN2 GS2 BAD2
      have HS0 := hd (show w.heap.size + 1 ≤ w2.heap.size from block_lt_of_cell S2.out.c0)
      go_wp2_with (first
        | (go_at_call 17; refine (l06Start_any _).mono ?_; rintro e w3 ⟨rfl, hb3⟩; have HB3 := hd (below_tr hb3 HB2.out); have S3 := hd (S2.out.below hb3); have HO3 := hd (own_below HO2.out hb3); have HS3 := hd (show w.heap.size + 1 ≤ w3.heap.size from Nat.le_trans HS0.out hb3.size); clear hb3)
        | (go_at_call 16; refine (A3.out _ _ (S3.out.below ((Below.refl _ _).alloc (Nat.le_refl _) _)) ?_ ?_).mono ?_; exact own_mono (World.ownsRow_made (size := 1) w3 #[] 0 (Nat.le_refl _) (by unfold maxLen; omega) rfl (e := 9)) HS3.out; exact Nat.le_trans HS3.out (by simp only [World.size_alloc]; omega); rintro e w4 ⟨u4, rfl, ho4, hg4, hl4⟩; have HO4 := hd ho4; have HG4 := hd hg4; have HL4 := hd hl4; clear ho4 hg4 hl4; obtain ⟨A0, cap0, rfl, hc0, _, _⟩ := own_rd HO4.out (by unfold maxLen; omega))
        | (at_make; go_must (refine wpList_make_int _ rfl _ rfl _ _ N rfl rfl (by omega) ?_); intro w5 ho5 hb5))
      have hB3' : Below w.heap.size w (w3.alloc (.cells #[] 9)) := below_tr ((Below.refl _ _).alloc (Nat.le_refl _) _) HB3.out
      have hB4 : Below w.heap.size w w4 := below_of_grew hB3' HG4.out (fun k hk => by cases hk) (fun k hk => by have e : w3.heap.size = k := by simpa [Value.ownBlock] using hk
                                                                                                                have := HS3.out; omega)
      have hO3 := own_below HO3.out ((Below.refl w3.heap.size w3).alloc (Nat.le_refl _) (.cells #[] 9))
      have hO3' := own_kept (u := .slice (some ⟨w3.heap.size, 0, none⟩) 0 0) hO3 (grown_of HG4.out) (dj_new HO3.out (World.ownsRow_made (size := 1) w3 #[] 0 (Nat.le_refl _) (by unfold maxLen; omega) rfl (e := 9)))
      have dA : Dj (.slice (some ⟨g2, 0, none⟩) i cap2) (.slice A0 N cap0) := dj_later HO3.out (Nat.le_refl _) (by simp [Value.ownBlock]) HL4.out (by simp)
      have dB : Dj (.slice A0 N cap0) (.slice (some ⟨w4.heap.size, 0, none⟩) N N) := dj_new HO4.out ho5
      have dC : Dj (.slice (some ⟨g2, 0, none⟩) i cap2) (.slice (some ⟨w4.heap.size, 0, none⟩) N N) := dj_new hO3' ho5
      have hz : w.heap.size + 1 ≤ w4.heap.size := Nat.le_trans HS3.out (Nat.le_trans (by simp) HG4.out.size)
      have gr : GRows w5 w.heap.size i N (.slice A0 N cap0) (.slice (some ⟨w4.heap.size, 0, none⟩) N N) (.slice (some ⟨g2, 0, none⟩) i cap2) ts (fun _ => 0) (posF f0) :=
        ⟨own_mono (own_below HO4.out hb5) (by omega), by rw [lst_zero]; have := own_mono ho5 (show w.heap.size ≤ _ by omega); simpa [vi] using this, by
          rw [lst_congr (f := posF f0) (g := f0) (fun j hj => by have := HP.out j hj; simp only [posF]; omega)]
          exact own_mono (own_below hO3' hb5) (by omega)⟩
      have GR0 := hd gr
      have GD := hd (show GDj (.slice A0 N cap0) (.slice (some ⟨w4.heap.size, 0, none⟩) N N) (.slice (some ⟨g2, 0, none⟩) i cap2) from ⟨dB, dj_symm dA, dj_symm dC⟩)
      have HB5 := hd (below_tr hb5 hB4)
      have GBS := hd (gb_start HP.out h24)
      clear gr dA dB dC hO3 hO3' hB3' hB4 ho5 hb5 hz HO3 HO4 HG4 HL4 S2 S3 HB2 HB3 HS0 HS3 HO2 A3 HP
      obtain ⟨g1, hg1⟩ : ∃ g1, g1 = w4.heap.size := ⟨_, rfl⟩
      rw [← hg1] at GR0 GD
      rw [← hg1]
      clear hg1
      generalize hS2 : i = S at *
      clear hS2 hi
      go_loopw [8] (fun sm wr => ∃ (n fu : Nat) (c f : Nat → Int), sm = .int .i64 (sumF f S) ∧ Hid (greedyF ts S fu c f = R) ∧ Hid (sumF f S < fu) ∧ Hid (GB S n c f) ∧ Hid (GRows wr w.heap.size S N (.slice A0 N cap0) (.slice (some ⟨g1, 0, none⟩) N N) (.slice (some ⟨g2, 0, none⟩) S cap2) ts c (posF f)) ∧ Hid (Below w.heap.size w wr)) (fun sm _ => (intOf sm).toNat)
      case atStart => exact ⟨0, 2401, fun _ => 0, f0, rfl, hd RG.out.symm, hd (by have := GBS.out.s0; omega), GBS, GR0, HB5⟩
      case round =>
        clear GR0 HB5 RG GBS
        obtain ⟨wo, hwo⟩ : ∃ wo : World, wo = wr := ⟨_, rfl⟩
        subst hwo
        obtain ⟨n, fu, c, f, rfl, HG, HFU, HGB, HR, HB⟩ := hrel
        have sf0 := sum_nonneg f S
        have sf1 : sumF f S ≤ 2400 := by have := HGB.out.s0; omega
        by_cases hs : sumF f S ≤ 0
        · have RS := hd (HG.out.symm.trans (greedy_done HFU.out hs))
          have GE := hd (GSS.out c RS.out)
          have hs' : ¬ 0 < sumF f S := by omega
          have SFP := hd (sum_nonneg f S)
          generalize hsf : sumF f S = sf at *
          clear hsf
          go_wp2
          have HSTART := hd (gsel_start (w := w) HR.out HB.out.size)
          have HBL := hd (show Below w.heap.size w ((wo.alloc (.cells #[] 9)).alloc (.cells #[] 2)) from below_tr (((Below.refl wo.heap.size wo).alloc (Nat.le_refl _) _).alloc (by simp) _) HB.out)
          have HR2 := hd (show GRows ((wo.alloc (.cells #[] 9)).alloc (.cells #[] 2)) _ _ _ _ _ _ _ _ _ from HR.out.below (((Below.refl wo.heap.size wo).alloc (Nat.le_refl _) _).alloc (by simp) _))
          have SL := hd (fun i => sel_len ts c i)
          have C0 := hd (fun i => (HGB.out.c0 i).1)
          have C1 := hd (fun i => show c i ≤ 2400 from by have := (HGB.out.c0 i).2; have := HGB.out.s0; have := sum_nonneg f S; omega)
          go_loopw [18, 19, 20] (fun o1 o2 ix wr => ∃ i : Nat, i ≤ N ∧ ix = .int .i64 i ∧ Hid (GSel wr w.heap.size (.slice A0 N cap0) (.slice (some ⟨g1, 0, none⟩) N N) (.slice (some ⟨g2, 0, none⟩) S cap2) o1 o2 ts c i) ∧ Hid (GRows wr w.heap.size S N (.slice A0 N cap0) (.slice (some ⟨g1, 0, none⟩) N N) (.slice (some ⟨g2, 0, none⟩) S cap2) ts c (posF f)) ∧ Hid (Below w.heap.size w wr)) (fun _ _ ix _ => N - (intOf ix).toNat)
          case atStart => exact ⟨0, by omega, rfl, HSTART, HR2, HBL⟩
          case round =>
            clear HSTART HR2 HBL HR HB
            obtain ⟨i, hi, rfl, HS, HR, HB⟩ := hrel
            by_cases hlt : i < N
            · have ci := row_cell HR.out.rc hlt
              obtain ⟨ga, rfl, ct⟩ := text_cell HR.out.rt (by unfold maxLen; omega) hlt
              have i1 : (0 : Int) ≤ (i : Int) := by omega
              have i2 : (i : Int) < (N : Int) := by omega
              have c0 := C0.out i
              have c1 := C1.out i
              have sl := (SL.out i).2
              by_cases hp : 0 < c i
              · have TK := hd (fun W1 W2 p1 p2 k1 g1' h1 k2 g2' h2 => gsel_take (W1 := W1) (W2 := W2) (p1 := p1) (p2 := p2) HS.out HR.out hp k1 g1' h1 k2 g2' h2)
                have RC := hd (fun W1 g1' => row_cell (HR.out.grown (w' := W1) g1' HS.out.a1 HS.out.a2 HS.out.a3).rc hlt)
                generalize ts.getD i ⟨#[]⟩ = tx at *
                generalize c i = ci' at *
                go_wp2_with (first
                  | (at_builtin; refine wpList_app_string _ _ _ rfl _ _ rfl w.heap.size (selC c i).length _ _ rfl HS.out.s1 rfl _ rfl rfl (by omega) HB.out.size ?_; intro p1 w5 ho5 hg5 hap5; have HO5 := hd ho5; have HG5 := hd hg5; have HA5 := hd hap5; have HS2 := hd (own_kept HS.out.s2 hg5 (dj_symm HS.out.d)); have HB5 := hd (below_row hg5 HB.out (own_row HS.out.s1 (Nat.le_refl _))); have ci5 := RC.out _ hg5; clear ho5 hg5 hap5)
                  | (at_builtin; go_must (refine wpList_app_int _ _ _ rfl _ _ rfl w.heap.size (selC c i).length _ _ rfl HS2.out rfl _ rfl rfl (by omega) HB5.out.size ?_); intro p2 w6 ho6 hg6 hap6))
                go_roundw
                case rel =>
                  have tk := TK.out _ _ _ _ HO5.out HG5.out HA5.out ho6 hg6 hap6
                  exact ⟨i + 1, by omega, by go_num, hd tk.1, hd tk.2, hd (below_row hg6 HB5.out (own_row HS2.out (Nat.le_refl _)))⟩
                case measure => simp [intOf]; omega
              · go_wp2
                go_roundw
                case rel => exact ⟨i + 1, by omega, by go_num, hd (gsel_skip HS.out hp), HR, HB⟩
                case measure => simp [intOf]; omega
            · have e : i = N := by omega
              subst e
              go_wp2
              go_ret3
              rw [GE.out]
              have sl := (SL.out i).1
              exact ⟨_, _, rfl, by dsimp only; rw [sl]; exact HS.out.s1, HS.out.s2, HS.out.d, HB.out⟩
        · have hs' : 0 < sumF f S := by omega
          have hs2 := hd hs'
          have FP := hd (fun k => show (0 < posF f k ↔ 0 < f k) ∧ 0 ≤ posF f k from ⟨⟨fun h => by simp only [posF] at h; omega, fun h => by simp only [posF]; omega⟩, by simp only [posF]; omega⟩)
          clear hs
          generalize hsf : sumF f S = sf at *
          have HSF := hd hsf
          clear hsf
          go_wp2
          go_loop [12, 13, 14] (fun be mo ix => ∃ i : Nat, i ≤ N ∧ ix = .int .i64 i ∧ be = .int .i64 (bestT ts f S i).1 ∧ mo = .int .i64 ((bestT ts f S i).2 : Nat)) (fun _ _ ix => N - (intOf ix).toNat)
          case atStart => exact ⟨0, by omega, rfl, rfl, rfl⟩
          case round =>
            obtain ⟨i, hi, rfl, rfl, rfl⟩ := hrel
            by_cases hlt : i < N
            · obtain ⟨ga, rfl, ct⟩ := text_cell HR.out.rt (by unfold maxLen; omega) hlt
              have i1 : (0 : Int) ≤ (i : Int) := by omega
              have i2 : (i : Int) < (N : Int) := by omega
              have tsz := TS.out i hlt
              have BY := hd (fun h => best_yes (ts := ts) (f := f) (S := S) (i := i) h)
              have BN := hd (fun h => best_no (ts := ts) (f := f) (S := S) (i := i) h)
              have BB := best_bd ts f S i
              obtain ⟨BB1, BB2, BB3, _⟩ := BB
              generalize ts.getD i ⟨#[]⟩ = tx at *
              generalize hp1 : (bestT ts f S i).1 = p1 at *
              have HP1 := hd hp1
              clear hp1
              generalize hp2 : (bestT ts f S i).2 = p2 at *
              have HP2 := hd hp2
              clear hp2
              have HTZ := hd tsz
              clear tsz
              go_wp2
              go_loop [15, 16] (fun gn ix => ∃ k : Nat, k ≤ S ∧ ix = .int .i64 k ∧ gn = .int .i64 (gainT tx f k : Nat)) (fun _ ix => S - (intOf ix).toNat)
              case atStart => exact ⟨0, by omega, rfl, rfl⟩
              case round =>
                obtain ⟨k, hk, rfl, rfl⟩ := hrel
                have gle := gain_le tx f k
                by_cases hks : k < S
                · have fk := row_cell HR.out.rf hks
                  obtain ⟨q, hq, hw⟩ := let_at HTZ.out hks
                  have hq2 := hq (by have := HTZ.out; omega)
                  have k1 : (0 : Int) ≤ (k : Int) := by omega
                  have k2 : (k : Int) < (S : Int) := by omega
                  have k3 : (k : Int) < (tx.size : Int) := by have := HTZ.out; omega
                  have GY := hd (fun h hw => gain_yes (t := tx) (f := f) (k := k) h hw)
                  have GNO := hd (fun h => gain_no (t := tx) (f := f) (k := k) h)
                  have HW := hd hw
                  have FK := hd (FP.out k)
                  generalize posF f k = fk' at *
                  clear hq hw
                  by_cases hqq : q = 119
                  · by_cases hp : 0 < fk'
                    · have e := GY.out (FK.out.1.1 hp) (by rw [HW.out]; exact decide_eq_true hqq)
                      have HE := hd e
                      clear e
                      subst hqq
                      go_wp2
                      go_round
                      case rel => exact ⟨k + 1, by omega, by go_num, by rw [HE.out]; go_num⟩
                      case measure => simp [intOf]; omega
                    · have HE := hd (GNO.out (.inl (fun h => hp (FK.out.1.2 h))))
                      subst hqq
                      go_wp2
                      go_round
                      case rel => exact ⟨k + 1, by omega, by go_num, by rw [HE.out]⟩
                      case measure => simp [intOf]; omega
                  · have HE := hd (GNO.out (.inr (by rw [HW.out]; exact decide_eq_false hqq)))
                    have hq9 : ((q : Int) == 119) = false := by simp; omega
                    clear hqq
                    go_wp2
                    go_round
                    case rel => exact ⟨k + 1, by omega, by go_num, by rw [HE.out]⟩
                    case measure => simp [intOf]; omega
                · have e : k = S := by omega
                  subst e
                  by_cases hgt : p2 < gainT tx f k
                  · have HE := hd (BY.out hgt)
                    generalize gainT tx f k = gg at *
                    go_wp2
                    go_round
                    case rel => exact ⟨i + 1, by omega, by go_num, by rw [HE.out], by rw [HE.out]⟩
                    case measure => simp [intOf]; omega
                  · have HE := hd (BN.out hgt)
                    generalize gainT tx f k = gg at *
                    go_wp2
                    go_round
                    case rel => exact ⟨i + 1, by omega, by go_num, by rw [HE.out, HP1.out], by rw [HE.out, HP2.out]⟩
                    case measure => simp [intOf]; omega
            · have e : i = N := by omega
              subst e
              have HNN := HN.out
              obtain ⟨_, q2, q3, q4⟩ := best_bd ts f S i
              by_cases hneg : (bestT ts f S i).1 < 0
              · have HE := hd (GNN.out (HG.out.symm.trans (greedy_none (c := c) (by have := hs2.out; have := HSF.out; omega) (by rw [← HNN]; exact hneg))))
                clear HNN
                generalize (bestT ts f S i).1 = pp at *
                go_wp2
                go_ret3
                rw [HE.out]
                exact ⟨_, _, rfl, World.ownsRow_nil _ _ _ _, World.ownsRow_nil _ _ _ _, fun k h => by simp [Value.ownBlock] at h, HB.out⟩
              · obtain ⟨b, hb⟩ : ∃ b : Nat, (bestT ts f S i).1 = (b : Int) := ⟨(bestT ts f S i).1.toNat, by omega⟩
                have hbN : b < i := by omega
                rw [hb]
                have HBB : (bestT ts f S ts.length).1 = (b : Int) := by rw [← HNN]; exact hb
                obtain ⟨m, hm, hgs⟩ := greedy_step (c := c) (by rw [HSF.out]; exact HFU.out) (by have := hs2.out; have := HSF.out; omega) HBB
                obtain ⟨gb1, gb2⟩ := gb_step HGB.out HBB
                obtain ⟨tx, htx⟩ : ∃ tx, tx = ts.getD b ⟨#[]⟩ := ⟨_, rfl⟩
                have TZ := TS.out b hbN
                rw [← htx] at hgs gb1 gb2 TZ
                have HTZ := hd TZ
                have HTX := hd htx
                clear htx TZ
                have HM := hd hm; have HGS := hd hgs; have GB1 := hd gb1; have GB2 := hd gb2
                have SUB := hd (show ∀ k, k ≤ S → True from fun _ _ => trivial)
                clear hm hgs gb1 gb2 HBB HNN hb hneg q2 q3 q4
                have cb := row_cell HR.out.rc hbN
                have cb0 := (HGB.out.c0 b).1
                have cb1 : c b ≤ 2400 := by have := (HGB.out.c0 b).2; have := HGB.out.s0; have := sum_nonneg f S; omega
                have j1 : (0 : Int) ≤ (b : Int) := by omega
                have j2 : (b : Int) < (i : Int) := by omega
                have SA := hd (set_add (c := c) (n := i) (b := b))
                generalize hcb : c b = cb' at *
                have HCB := hd hcb
                clear hcb
                go_wp2_with (((with_reducible refine wpList_store_own _ w.heap.size 2 1 i i g1 _ HR.out.rc size_int ?_ ?_ ?_ ?_ ?_ ?_ ?_); rotate_left 2; exact rfl; exact rfl; exact rfl; omega; intro w6 ho7 hg7))
                have hr6 := HR.out.setc (c' := addF b c) GD.out (by
                  have e : w6.ownsRow w.heap.size 2 1 (.slice (some ⟨g1, 0, none⟩) i i) i (((lst c i).map vi).set b (.int .i64 (cb' + 1))) := ho7
                  rw [SA.out] at e
                  exact e) hg7
                have HR6 := hd hr6
                have HB6 := hd (below_row hg7 HB.out (own_row HR.out.rc (Nat.le_refl _)))
                clear hr6 ho7 hg7 cb SA
                have F1 := hd (fun j (hj : j < S) => show 0 ≤ posF f j ∧ posF f j ≤ 100 by have := HGB.out.f0 j hj; simp only [posF]; omega)
                go_loopw [8, 17] (fun sm ix wr => ∃ k : Nat, k ≤ S ∧ ix = .int .i64 k ∧ sm = .int .i64 (sf - (gainT tx f k : Nat)) ∧ Hid (GRows wr w.heap.size S i (.slice A0 i cap0) (.slice (some ⟨g1, 0, none⟩) i i) (.slice (some ⟨g2, 0, none⟩) S cap2) ts (addF b c) (subG tx (posF f) k)) ∧ Hid (Below w.heap.size w wr)) (fun _ ix _ => S - (intOf ix).toNat)
                case atStart => exact ⟨0, by omega, rfl, by simp [gainT], by rw [subG_zero]; exact HR6, HB6⟩
                case round =>
                  clear HR6 HB6 HR HB
                  obtain ⟨k, hk, rfl, rfl, HR, HB⟩ := hrel
                  have gle := gain_le tx f k
                  by_cases hks : k < S
                  · have fk := row_cell HR.out.rf hks
                    rw [subG_at] at fk
                    obtain ⟨ga, rfl, ct⟩ := text_cell HR.out.rt (by unfold maxLen; omega) hbN
                    rw [← HTX.out] at ct
                    obtain ⟨q, hq, hw⟩ := let_at HTZ.out hks
                    have hq2 := hq (by have := HTZ.out; omega)
                    have k1 : (0 : Int) ≤ (k : Int) := by omega
                    have k2 : (k : Int) < (S : Int) := by omega
                    have k3 : (k : Int) < (tx.size : Int) := by have := HTZ.out; omega
                    obtain ⟨f1, f2⟩ := F1.out k hks
                    have SY := hd (fun h h0 => set_subG (t := tx) (f := posF f) (n := S) (k := k) h h0)
                    have SN := hd (fun h => subG_skip (t := tx) (f := posF f) (k := k) h)
                    have GY := hd (fun h hw => gain_yes (t := tx) (f := f) (k := k) h hw)
                    have GNO := hd (fun h => gain_no (t := tx) (f := f) (k := k) h)
                    have HW := hd hw
                    have FK := hd (FP.out k)
                    clear hw hq
                    generalize posF f k = fk' at *
                    by_cases hqq : q = 119
                    · by_cases hp : 0 < fk'
                      · have hse := SY.out (by rw [HW.out]; exact decide_eq_true hqq) hp
                        have HSE := hd hse
                        have HE := hd (GY.out (FK.out.1.1 hp) (by rw [HW.out]; exact decide_eq_true hqq))
                        clear hse SY SN
                        subst hqq
                        clear HW
                        generalize gainT tx f k = gg at *
                        go_wp2_with (((with_reducible refine wpList_store_own _ w.heap.size 2 1 S cap2 g2 _ HR.out.rf size_int ?_ ?_ ?_ ?_ ?_ ?_ ?_); rotate_left 2; exact rfl; exact rfl; exact rfl; omega; intro w7 ho8 hg8))
                        go_roundw
                        case rel =>
                          refine ⟨k + 1, by omega, by go_num, by rw [HE.out]; go_num, hd (HR.out.setf GD.out ?_ hg8), hd (below_row hg8 HB.out (own_row HR.out.rf (Nat.le_refl _)))⟩
                          have e : w7.ownsRow w.heap.size 2 1 (.slice (some ⟨g2, 0, none⟩) S cap2) S (((lst (subG tx (posF f) k) S).map vi).set k (.int .i64 (fk' - 1))) := ho8
                          rw [HSE.out] at e
                          exact e
                        case measure => simp [intOf]; omega
                      · have HSE := hd (SN.out (.inr hp))
                        have HE := hd (GNO.out (.inl (fun h => hp (FK.out.1.2 h))))
                        clear SY SN
                        subst hqq
                        clear HW
                        generalize gainT tx f k = gg at *
                        go_wp2
                        go_roundw
                        case rel => exact ⟨k + 1, by omega, by go_num, by rw [HE.out], by rw [HSE.out]; exact HR, HB⟩
                        case measure => simp [intOf]; omega
                    · have HSE := hd (SN.out (.inl (by rw [HW.out]; exact decide_eq_false hqq)))
                      have HE := hd (GNO.out (.inr (by rw [HW.out]; exact decide_eq_false hqq)))
                      have hq9 : ((q : Int) == 119) = false := by simp; omega
                      clear SY SN hqq HW
                      generalize gainT tx f k = gg at *
                      go_wp2
                      go_roundw
                      case rel => exact ⟨k + 1, by omega, by go_num, by rw [HE.out], by rw [HSE.out]; exact HR, HB⟩
                      case measure => simp [intOf]; omega
                  · have e : k = S := by omega
                    subst e
                    have SS := hd (sum_subk tx f k k (Nat.le_refl _))
                    go_wp2
                    go_roundw
                    case rel => exact ⟨n + 1, m, addF b c, subF tx f k, by rw [SS.out, HSF.out], hd (by rw [← HGS.out]; exact HG.out), hd (by have := GB2.out; have := HM.out; have := HFU.out; have := HSF.out; omega), GB1, by rw [pos_sub]; exact HR, HB⟩
                    case measure =>
                      have := GB2.out
                      have := HSF.out
                      have := SS.out
                      have := hs2.out
                      simp [intOf]
                      omega
end Go.Proofs.Ytfhcpfikakllbaa
