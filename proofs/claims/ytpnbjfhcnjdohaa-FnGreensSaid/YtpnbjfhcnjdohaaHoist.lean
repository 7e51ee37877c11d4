/- The hoist's period, on the program's side. -/
import Derived.Test.YtpnbjfhcnjdohaaProg
import Derived.Test.YtpnbjfhcnjdohaaRuns
import Derived.Test.YtpnbjfhcnjdohaaPeriods
import Derived.Test.YtpnbjfhcnjdohaaMaxMin
import Derived.Test.YtpnbjfhcnjdohaaApp
import Derived.Test.YtpnbjfhcnjdohaaHoistM
import Derived.Test.YtpnbjfhcnjdohaaHoistX
import Derived.Test.YtpnbjfhcnjdohaaStepApp
import Derived.Deep.RegionHeld3
namespace Go.Proofs.Ytpnbjfhcnjdohaa
open Go.RowKit Plain
set_option linter.unusedVariables false
set_option linter.unusedSimpArgs false
attribute [local go_sem ↓] Go.wp_at_zero Go.wp_at_succ

/-- two moves do not meet -/
def meetH (S M : Nat → Nat) (p i k : Nat) : Prop := M k ≤ ((S i : Int) - S k) % p ∧ ((S i : Int) - S k) % p + M i ≤ p
def stL (so mv : List Int) (n : Nat) : List Int := (List.range n).map fun i => (stH so mv i : Int)
theorem stL_get {so mv : List Int} {n i : Nat} (h : i < n) : (stL so mv n)[i]? = some (stH so mv i : Int) := by simp [stL, h]
theorem stL_len (so mv : List Int) (n : Nat) : (stL so mv n).length = n := by simp [stL]
theorem stL_getD {so mv : List Int} {n i : Nat} (h : i < n) : (stL so mv n).getD i 0 = (stH so mv i : Int) := by rw [List.getD_eq_getElem?_getD, stL_get h]; rfl
theorem stL_succ (so mv : List Int) (n : Nat) : stL so mv (n + 1) = stL so mv n ++ [(stH so mv n : Int)] := by simp [stL, List.range_succ]

set_option maxHeartbeats 1000000 in
set_option maxRecDepth 100000 in
theorem canServe_any (so mv : List Int) (p : Nat) (v u : Value) (w : World) (n : Nat) (hn : n = so.length + 1) (hs : Sl w 1 v n ((stL so mv n).map vi)) (hm : Sl w 1 u mv.length (mv.map vi)) (hl : mv.length = so.length + 1)
    (h1 : so.all (inR · 0 1000) = true) (h2 : mv.all (inR · 1 100) = true) (h12 : 1 ≤ so.length ∧ so.length ≤ 12) (p1 : 1 ≤ p) (p2 : p ≤ 10000) :
    Calls Try.prog 30 #[v, u, .int .i64 p] w fun r w' => r = .returned (.bool (allSt p (stH so mv) (mvH mv) (so.length + 1)).isSome) ∧ Below w.heap.size w w' := by
  obtain ⟨A, cap, rfl, hcap, hr⟩ := hs
  obtain ⟨A', cap', rfl, hcap', hr'⟩ := hm
  have MB := fun i (hi : i < n) => mvH_bd h2 i (by omega)
  have SB := fun i (hi : i < n) => stH_bd h1 h2 hl i (by omega)
  have HI := serve_iff (p := p) (S := stH so mv) (M := mvH mv) (n := so.length + 1) (by omega) (by omega) (fun i hi => (MB i (by omega)).1)
  have HNO := hd (fun i k (hk : k < i) (hi : i < n) (h : ¬ meetH (stH so mv) (mvH mv) p i k) => (show (allSt p (stH so mv) (mvH mv) (so.length + 1)).isSome = false from by
    rw [Bool.eq_false_iff]; intro e; exact h (HI.2 e i (by omega) k hk)))
  have HYES := hd (fun (h : ∀ i, i < n → ∀ k, k < i → meetH (stH so mv) (mvH mv) p i k) => (show (allSt p (stH so mv) (mvH mv) (so.length + 1)).isSome = true from HI.1 (fun i hi k hk => h i (by omega) k hk)))
  have MB := hd MB; have SB := hd SB
  have GS := hd (fun i (h : i < n) => stL_getD (so := so) (mv := mv) h)
  rw [← hn] at HNO HYES ⊢
  rw [hl, ← hn] at hr' hcap'
  have hn13 : n ≤ 13 := by omega
  rw [hl, ← hn]
  clear HI h1 h2 h12 hl hn
  generalize (allSt p (stH so mv) (mvH mv) n).isSome = R at *
  generalize stH so mv = S at *
  generalize mvH mv = M at *
  go_enter Try.func30, Try.ntmps30
  go_wp2
  go_loopw [12] (fun ix wr => ∃ i : Nat, i ≤ n ∧ ix = .int .i64 i ∧ Hid (∀ a, a < i → ∀ k, k < a → meetH S M p a k) ∧ Below w.heap.size w wr) (fun ix _ => n - (intOf ix).toNat)
  case atStart => exact ⟨0, by omega, rfl, hd (fun a ha => by omega), Below.refl _ _⟩
  case round =>
    obtain ⟨i, hi, rfl, hall, hb⟩ := hrel
    by_cases hlt : i < n
    · have Hb := hd hb
      clear hb
      go_wp2
      go_loopw [16] (fun ix wr => ∃ k : Nat, k ≤ i ∧ ix = .int .i64 k ∧ Hid (∀ a, a < k → meetH S M p i a) ∧ Below w.heap.size w wr) (fun ix _ => i - (intOf ix).toNat)
      case atStart => exact ⟨0, by omega, rfl, hd (fun a ha => by omega), Hb.out⟩
      case round =>
        obtain ⟨k, hk, rfl, hin, hb⟩ := hrel
        clear Hb
        by_cases hkt : k < i
        · obtain ⟨b0, o0, rfl, ci⟩ := (hr.below hb).int hlt
          obtain ⟨b1, o1, hA, ck⟩ := (hr.below hb).int (show k < n by omega)
          cases hA
          obtain ⟨b2, o2, rfl, mi⟩ := (hr'.below hb).int hlt
          obtain ⟨b3, o3, hA, mk⟩ := (hr'.below hb).int (show k < n by omega)
          cases hA
          obtain ⟨x1, x2, x3⟩ := MB.out i hlt
          obtain ⟨y1, y2, y3⟩ := MB.out k (by omega)
          have s1 := SB.out i hlt
          have s2 := SB.out k (by omega)
          rw [GS.out i hlt] at ci
          rw [GS.out k (by omega)] at ck
          rw [x3] at mi
          rw [y3] at mk
          have HNk := hd (fun h => HNO.out i k hkt hlt h)
          have HON := hd (fun (h : meetH S M p i k) => (fun a (ha : a < k + 1) => (show meetH S M p i a from by
            by_cases e : a = k
            · subst e; exact h
            · exact hin.out a (by omega))))
          have e1 := Int.emod_nonneg ((S i : Int) - S k) (show (p : Int) ≠ 0 by omega)
          have e2 := Int.emod_lt_of_pos ((S i : Int) - S k) (show (0 : Int) < p by omega)
          have HME := hd (show meetH S M p i k ↔ ((M k : Int) ≤ ((S i : Int) - S k) % p ∧ ((S i : Int) - S k) % p + M i ≤ p) from Iff.rfl)
          have hI : I64 ((S i : Int) - S k) := ⟨by omega, by omega⟩
          generalize S i = si at *
          generalize S k = sk at *
          generalize M i = xm at *
          generalize M k = ym at *
          have Hb := hd hb
          have j1 : (0 : Int) ≤ (k : Int) := by omega
          have j2 : (k : Int) < (n : Int) := by omega
          have j3 : (0 : Int) ≤ (i : Int) := by omega
          have j4 : (i : Int) < (n : Int) := by omega
          have w1 : IntKind.i64.wrap ((si : Int) - sk) = (si : Int) - sk := IntWalk.i64_in _ (by omega)
          clear hb x3 y3 hr hr'
          go_wp2
          go_quiet ((go_at_call 39; exact Calls.quiet_of_same ((floorMod_any _ _ _ (by omega) (by omega) hI).mono fun _ _ h => ⟨h.1, h.2.symm⟩)))
          clear w1
          generalize ((si : Int) - sk) % p = dd at *
          by_cases hc1 : dd < (ym : Int)
          · go_wp2
            go_ret
            exact ⟨ret_bool (HNk.out (fun h => by have := HME.out.1 h; omega)).symm, below_drewN Hb.out _⟩
          · by_cases hc2 : (p : Int) - dd < (xm : Int)
            · go_wp2
              go_ret
              exact ⟨ret_bool (HNk.out (fun h => by have := HME.out.1 h; omega)).symm, below_drewN Hb.out _⟩
            · have hm := HON.out (HME.out.2 ⟨by omega, by omega⟩)
              have HM := hd hm
              clear hm
              go_wp2
              go_roundw
              case rel => exact ⟨k + 1, by omega, by go_num, HM, below_drewN Hb.out _⟩
              case measure => simp [intOf]; omega
        · have e : k = i := by omega
          subst e
          have HA := hd (show ∀ a, a < k + 1 → ∀ q, q < a → meetH S M p a q from fun a ha q hq => by
            by_cases e : a = k
            · subst e; exact hin.out q hq
            · exact hall.out a (by omega) q hq)
          have Hb := hd hb
          clear hb
          go_wp2
          go_roundw
          case rel => exact ⟨k + 1, by omega, by go_num, HA, Hb.out⟩
          case measure => simp [intOf]; omega
    · have e : i = n := by omega
      subst e
      have H := hd (HYES.out hall.out)
      go_wp2
      go_ret
      exact ⟨ret_bool H.out.symm, hb⟩
theorem MH_no {so mv : List Int} {most : Int} (h : condH so mv most = false) : MH so mv most = (0, false) := by rw [MH, h]; rfl
theorem MH_some {so mv : List Int} {most : Int} {p : Nat} (hc : condH so mv most = true) (h : ∀ q, 1 ≤ q → q < p → okH so mv q = false) (hp : okH so mv p = true) (h1 : 1 ≤ p) (h2 : (p : Int) ≤ most) : MH so mv most = ((p : Int), true) := by
  rw [MH, hc, firstH_some h hp h1 (by omega)]; rfl
theorem MH_none {so mv : List Int} {most : Int} (hc : condH so mv most = true) (h : ∀ q : Nat, 1 ≤ q → (q : Int) ≤ most → okH so mv q = false) : MH so mv most = (0, false) := by
  rw [MH, hc, firstH_none (fun q h1 h2 => h q h1 (by
    have : 0 ≤ most := by
      rcases Int.lt_or_le most 0 with h3 | h3
      · have : most.toNat = 0 := by omega
        omega
      · exact h3
    omega))]; rfl
theorem cond_eq (so mv : List Int) (most : Int) : condH so mv most = (manyIn so 1 12 0 1000 && (manyIn mv ((so.length : Int) + 1) ((so.length : Int) + 1) 1 100 && inR most 1 10000)) := by
  unfold condH
  have e : decide (mv.length = so.length + 1) = (decide (((so.length : Int) + 1) ≤ mv.length) && decide ((mv.length : Int) ≤ (so.length : Int) + 1)) := by
    rw [← Bool.decide_and]
    congr 1
    exact propext ⟨fun h => by omega, fun h => by omega⟩
  conv => rhs; rw [manyIn]
  conv => lhs; rw [manyIn]
  conv => rhs; rw [manyIn]
  rw [e]
  simp only [Bool.and_assoc]

set_option maxHeartbeats 2000000 in
set_option maxRecDepth 100000 in
theorem HoistPeriod_any (w : World) (v : Value) (so : List Int) (s : Sl w 1 v so.length (so.map vi)) (u : Value) (mv : List Int) (t : Sl w 1 u mv.length (mv.map vi)) (most : Int) :
    Calls Try.prog 13 #[v, u, .int .i64 most] w fun e w' => e = .returned (.tuple #[.int .i64 (MH so mv most).1, .bool (MH so mv most).2]) ∧ Below w.heap.size w w' := by
  have hc := cond_eq so mv most
  have hso := s
  obtain ⟨_, _, _, hcp0, hr0⟩ := id s
  have hm0 := hr0.2.1
  unfold maxLen at hm0
  have A1 := hd (fun w' h => areRuns_any v so w' (s.below h))
  have A2 := hd (fun w' h => areMany_any u mv ((so.length : Int) + 1) ((so.length : Int) + 1) 1 100 w' (t.below h))
  cases h1 : manyIn so 1 12 0 1000 with
  | false =>
    have H := hd (MH_no (by rw [hc, h1]; rfl) : MH so mv most = (0, false))
    rw [h1] at A1
    obtain ⟨A, cap, rfl, hcap, hr⟩ := s
    clear hc h1 hso hr0 hcp0
    go_enter Try.func13, Try.ntmps13
    go_wp2_with (first | (go_at_call 27; refine (A1.out _ (Below.refl _ _)).mono ?_; rintro e w' ⟨rfl, hw⟩; subst hw))
    go_ret2
    rw [H.out]
    exact ⟨rfl, Below.refl _ _⟩
  | true =>
    rw [h1] at A1
    have n12 : (so.length : Int) ≤ 12 := by
      simp only [manyIn, Bool.and_eq_true, decide_eq_true_eq] at h1
      exact h1.2.1
    cases h2 : manyIn mv ((so.length : Int) + 1) ((so.length : Int) + 1) 1 100 with
    | false =>
      have H := hd (MH_no (by rw [hc, h1, h2]; rfl) : MH so mv most = (0, false))
      rw [h2] at A2
      obtain ⟨A, cap, rfl, hcap, hr⟩ := s
      clear hc h1 h2 hso hr0 hcp0
      go_enter Try.func13, Try.ntmps13
      go_wp2_with (first | (go_at_call 27; refine (A1.out _ (Below.refl _ _)).mono ?_; rintro e w' ⟨rfl, hw⟩; subst hw) | (go_at_call 28; refine (A2.out _ (Below.refl _ _)).mono ?_; rintro e w' ⟨rfl, hw⟩; subst hw))
      go_ret2
      rw [H.out]
      exact ⟨rfl, Below.refl _ _⟩
    | true =>
      rw [h2] at A2
      cases h3 : inR most 1 10000 with
      | false =>
        have H := hd (MH_no (by rw [hc, h1, h2, h3]; rfl) : MH so mv most = (0, false))
        have A3 := hd (fun w' => within_f most 1 10000 w' h3)
        clear h3
        obtain ⟨A, cap, rfl, hcap, hr⟩ := s
        clear hc h1 h2 hso hr0 hcp0
        go_enter Try.func13, Try.ntmps13
        go_wp2_with (first | (go_at_call 27; refine (A1.out _ (Below.refl _ _)).mono ?_; rintro e w' ⟨rfl, hw⟩; subst hw) | (go_at_call 28; refine (A2.out _ (Below.refl _ _)).mono ?_; rintro e w' ⟨rfl, hw⟩; subst hw) | (go_at_call 19; refine (A3.out _).mono ?_; rintro e w' ⟨rfl, hw⟩; replace hw := hw.symm; subst hw))
        go_ret2
        rw [H.out]
        exact ⟨rfl, Below.refl _ _⟩
      | true =>
        have hcd : condH so mv most = true := by rw [hc, h1, h2, h3]; rfl
        have f1 := h1; have f2 := h2
        simp only [manyIn, Bool.and_eq_true, decide_eq_true_eq] at f1 f2
        obtain ⟨q1, q2⟩ := inR_iff.1 h3
        have hl : mv.length = so.length + 1 := by omega
        have YS := hd (fun p h hp a b => MH_some (p := p) hcd h hp a b)
        have NS := hd (fun h => MH_none hcd h)
        have MX := hd (fun P => max_all (so := so) (P := P) (by omega))
        obtain ⟨x1, x2⟩ := max_bd f1.2.2 (by omega)
        have SB := hd (fun i hi => stH_bd f1.2.2 f2.2.2 hl i hi)
        have MB := hd (fun i (hi : i < so.length + 1) => mvH_bd f2.2.2 i (by omega))
        have OB := hd (fun i (hi : i < so.length) => soH_bd f1.2.2 i hi)
        have CS := hd (fun w1 z p hz hb1 hp1 hp2 => canServe_any so mv p z u w1 (so.length + 1) rfl hz (t.below hb1) hl f1.2.2 f2.2.2 ⟨by omega, by omega⟩ hp1 hp2)
        have SX := hd (fun w1 hb1 => slicesMax_any v so w1 (hso.below hb1) (by omega))
        have SU := hd (fun i => (show ((stH so mv (i + 1) : Nat) : Int) = (stH so mv i : Int) + ((mvH mv i : Nat) : Int) + (((so.getD i 0).toNat : Nat) : Int) from by rw [stH, mvH]; push_cast; rfl))
        have GS := hd (fun n i (h : i < n) => stL_getD (so := so) (mv := mv) h)
        have GL := hd (fun n => stL_len so mv n)
        have GN := hd (fun n => stL_succ so mv n)
        have OKH := hd (fun P (h : maxTo so so.length ≤ (P : Nat)) => (show okH so mv P = (allSt P (stH so mv) (mvH mv) (so.length + 1)).isSome from by rw [okH, MX.out, decide_eq_true h, Bool.true_and]))
        have OKN := hd (fun (P : Nat) (h : ¬ maxTo so so.length ≤ (P : Nat)) => (show okH so mv P = false from by rw [okH, MX.out, decide_eq_false h, Bool.false_and]))
        have n1 := f1.1; have n2 := f1.2.1
        obtain ⟨A, cap, rfl, hcap, hr⟩ := s
        obtain ⟨A', cap', rfl, hcap', hr'⟩ := t
        rw [hl] at hr' hcap'
        have S1 := hd (show stL so mv 1 = [0] from rfl)
        have A3 := hd (fun w' => within_t most 1 10000 w' h3)
        clear hc h1 h2 h3 hso hr0 hcp0 f1 f2 MX hcd
        rw [hl] at A2
        rw [hl] at CS
        rw [hl]
        generalize hm : so.length = m at *
        clear hm hl
        generalize hmx : maxTo so m = mx at *
        generalize hal : okH so mv = ok at *
        clear hmx hal
        go_enter Try.func13, Try.ntmps13
        go_wp2_with (first | (go_at_call 27; refine (A1.out _ (Below.refl _ _)).mono ?_; rintro e w' ⟨rfl, hw⟩; subst hw) | (go_at_call 28; refine (A2.out _ (Below.refl _ _)).mono ?_; rintro e w' ⟨rfl, hw⟩; subst hw) | (go_at_call 19; refine (A3.out _).mono ?_; rintro e w' ⟨rfl, hw⟩; replace hw := hw.symm; subst hw))
        clear A1 A2
        have hstart : (w.alloc (.cells #[.int .i64 0] 2)).ownsRow w.heap.size 2 1 (.slice (some ⟨w.heap.size, 0, none⟩) 1 1) 1 [vi 0] := ⟨rfl, .inr ⟨w.heap.size, 1, #[.int .i64 0], rfl, Nat.le_refl _, by rw [heap_alloc_get]; simp, Nat.le_refl _, by unfold maxLen; omega, rfl, rfl⟩⟩
        go_loopw [8, 34] (fun out ix wr => ∃ i : Nat, i ≤ m ∧ ix = .int .i64 i ∧ wr.ownsRow w.heap.size 2 1 out (i + 1) ((stL so mv (i + 1)).map vi) ∧ Below w.heap.size w wr) (fun _ ix _ => m - (intOf ix).toNat)
        case atStart => exact ⟨0, by omega, rfl, by rw [S1.out]; exact hstart, (Below.refl _ _).alloc (Nat.le_refl _) _⟩
        case round =>
          obtain ⟨i, hi, rfl, ho, hb⟩ := hrel
          clear hstart
          by_cases hlt : i < m
          · obtain ⟨b0, o0, rfl, c0⟩ := (hr.below hb).int hlt
            obtain ⟨b1, o1, rfl, c1w⟩ := hr'.int (show i < m + 1 by omega)
            have hb1l := block_lt_of_cell c1w
            have c1 := below_at hb c1w
            clear c1w
            obtain ⟨A4, cap4, rfl, hc4, hr4, hA4⟩ := own_rd ho (size_le (by omega))
            obtain ⟨b2, o2, rfl, c2⟩ := hr4.int (show i < i + 1 by omega)
            rw [GS.out (i + 1) i (by omega)] at c2
            obtain ⟨y1, y2, y3⟩ := MB.out i (by omega)
            rw [y3] at c1
            obtain ⟨z1, z2⟩ := OB.out i hlt
            have s1 := SB.out i (by omega)
            have su := SU.out i
            have gn := GN.out (i + 1)
            generalize so.getD i 0 = xs at *
            generalize stH so mv i = si at *
            generalize mvH mv i = xm at *
            have HSU := hd su; have HGN := hd gn
            have Ho := hd ho; have Hb := hd hb
            have i1 : (0 : Int) ≤ (i : Int) := by omega
            have i2 : (i : Int) < (m : Int) := by omega
            have w1 : IntKind.i64.wrap ((si : Int) + xm) = (si : Int) + xm := IntWalk.i64_in _ (by omega)
            have w2 : IntKind.i64.wrap ((si : Int) + xm + xs) = (si : Int) + xm + xs := IntWalk.i64_in _ (by omega)
            clear su gn ho hb y3 hr4
            obtain ⟨g, hg0, hgb, hgl⟩ : ∃ g, b2 = g ∧ w.heap.size ≤ g ∧ g < wr.heap.size := by
              rcases hA4 with ⟨e, _⟩ | ⟨g, e, k1, k2⟩
              · cases e
              · cases e; exact ⟨_, rfl, k1, k2⟩
            subst hg0
            have ho20 : o2 = 0 := by
              rcases hA4 with ⟨e, _⟩ | ⟨g, e, _⟩
              · cases e
              · cases e; rfl
            subst ho20
            rw [Nat.zero_add] at c2
            have C1 := hd c1; have C2 := hd c2
            have i3 : (i : Int) < (i : Int) + 1 := by omega
            have i4 : (i : Int) < (m : Int) + 1 := by omega
            have Hgb := hd hgb
            have HO := hd (fun (q : Nat) => (show (World.drew wr).ownsRow w.heap.size 2 1 (.slice (some ⟨b2, 0, none⟩) (i + 1) cap4) (i + 1) ((stL so mv (i + 1)).map vi) from Ho.out))
            have HCN := hd (show ((World.drew wr).alloc (.cells #[.int .i64 ((si : Int) + xm + xs)] 2)).cell? ⟨wr.heap.size, 0, none⟩ = some (.int .i64 ((si : Int) + xm + xs)) from by
              have := cell_one_new (World.drew wr) (.int .i64 ((si : Int) + xm + xs)) 2 0 _ rfl
              simpa [Addr.add] using this)
            clear hA4 hgb
            go_wp2
            go_region_held3 (fun w' => w'.cell? ⟨b2, i, none⟩ = some (.int .i64 si) ∧ w'.cell? ⟨b1, o1 + i, none⟩ = some (.int .i64 xm))
              (first | go_keep | exact ⟨hkk.1, hkk.2⟩)
              (first | (refine step_app_int rfl _ _ rfl w.heap.size b2 (i + 1) cap4 ((stL so mv (i + 1)).map vi) rfl ((HO.out 0).alloc _) wr.heap.size (.int .i64 ((si : Int) + xm + xs)) rfl HCN.out rfl (by omega) (by have := Hb.out.size; simp; omega) ?_; intro v' w' k1 k2 k3; have hkk : w'.cell? ⟨b2, i, none⟩ = some (.int .i64 si) ∧ w'.cell? ⟨b1, o1 + i, none⟩ = some (.int .i64 xm) := ⟨k3 i _ (by omega) (below_at ((Below.refl _ (World.drew wr)).alloc (Nat.le_refl _) _) C2.out), k2.cell (below_at ((Below.refl _ (World.drew wr)).alloc (Nat.le_refl _) _) C1.out) (by intro e; have := Option.some.inj e; have := Hgb.out; simp only at *; omega)⟩))
            go_wp2
            go_roundw
            case rel =>
              refine ⟨i + 1, by omega, by go_num, ?_, below_row k2 ((show Below w.heap.size w (World.drew wr) from Hb.out.drew).alloc (show w.heap.size ≤ (World.drew wr).heap.size from Hb.out.size) _) (fun q hq => by have := Option.some.inj hq; have := Hgb.out; omega)⟩
              rw [HGN.out, List.map_append]
              have e : (stH so mv (i + 1) : Int) = (si : Int) + xm + xs := by rw [HSU.out]; omega
              rw [List.map_cons, e]
              exact k1
            case measure => simp [intOf]; omega
          · have e : i = m := by omega
            subst e
            obtain ⟨A4, cap4, rfl, _, _, _⟩ := own_rd ho (size_le (by omega))
            have Ho := hd ho; have Hb := hd hb
            clear ho hb
            by_cases hmx : 1 < mx
            · go_wp2_with (go_at_call 29; refine (SX.out _ Hb.out).mono ?_; rintro e w' ⟨rfl, hw⟩; subst hw)
              go_loopw [11] (fun px wr2 => ∃ P : Nat, px = .int .i64 P ∧ 1 ≤ P ∧ mx ≤ (P : Int) ∧ (P : Int) ≤ 10001 ∧ Hid (∀ q, 1 ≤ q → q < P → ok q = false) ∧ wr2.ownsRow w.heap.size 2 1 (.slice A4 (i + 1) cap4) (i + 1) ((stL so mv (i + 1)).map vi) ∧ Below w.heap.size w wr2) (fun px _ => 10001 - (intOf px).toNat)
              case atStart =>
                refine ⟨mx.toNat, ?_, by omega, by omega, by omega, hd (fun q h1 h2 => OKN.out q (by omega)), Ho.out, Hb.out⟩
                congr 1
                omega
              case round =>
                obtain ⟨P, rfl, P1, P2, P3, hno, ho, hb⟩ := hrel
                clear Ho Hb
                by_cases hle : (P : Int) ≤ most
                · have C := CS.out wr _ P (own_sl ho (size_le (by omega))) hb (by omega) (by omega)
                  have ok1 := OKH.out P P2
                  have Hb := hd hb; have Ho := hd ho
                  cases hR : (allSt P (stH so mv) (mvH mv) (i + 1)).isSome with
                  | true =>
                    rw [hR] at C ok1
                    have HC := hd C
                    have H := hd (YS.out P hno.out ok1 (by omega) hle)
                    clear C ok1 hR hb ho
                    go_wp2_with (go_at_call 30; refine HC.out.mono ?_; rintro e w' ⟨rfl, hb2⟩)
                    go_ret2
                    rw [H.out]
                    exact ⟨rfl, below_tr hb2 Hb.out⟩
                  | false =>
                    rw [hR] at C ok1
                    have HC := hd C
                    have HN := hd (show ∀ q, 1 ≤ q → q < P + 1 → ok q = false from fun q h1 h2 => by
                      by_cases e : q = P
                      · subst e; exact ok1
                      · exact hno.out q h1 (by omega))
                    clear C ok1 hR hb ho
                    go_wp2_with (go_at_call 30; refine HC.out.mono ?_; rintro e w' ⟨rfl, hb2⟩)
                    go_roundw
                    case rel => exact ⟨P + 1, by go_num, by omega, by omega, by omega, HN, own_below Ho.out hb2, below_tr hb2 Hb.out⟩
                    case measure => simp [intOf]; omega
                · have H := hd (NS.out (fun q h1 h2 => hno.out q h1 (by omega)))
                  go_wp2
                  go_ret2
                  rw [H.out]
                  exact ⟨rfl, hb⟩
            · go_wp2_with (go_at_call 29; refine (SX.out _ Hb.out).mono ?_; rintro e w' ⟨rfl, hw⟩; subst hw)
              go_loopw [11] (fun px wr2 => ∃ P : Nat, px = .int .i64 P ∧ 1 ≤ P ∧ mx ≤ (P : Int) ∧ (P : Int) ≤ 10001 ∧ Hid (∀ q, 1 ≤ q → q < P → ok q = false) ∧ wr2.ownsRow w.heap.size 2 1 (.slice A4 (i + 1) cap4) (i + 1) ((stL so mv (i + 1)).map vi) ∧ Below w.heap.size w wr2) (fun px _ => 10001 - (intOf px).toNat)
              case atStart =>
                refine ⟨1, ?_, by omega, by omega, by omega, hd (fun q h1 h2 => OKN.out q (by omega)), Ho.out, Hb.out⟩
                rfl
              case round =>
                obtain ⟨P, rfl, P1, P2, P3, hno, ho, hb⟩ := hrel
                clear Ho Hb
                by_cases hle : (P : Int) ≤ most
                · have C := CS.out wr _ P (own_sl ho (size_le (by omega))) hb (by omega) (by omega)
                  have ok1 := OKH.out P P2
                  have Hb := hd hb; have Ho := hd ho
                  cases hR : (allSt P (stH so mv) (mvH mv) (i + 1)).isSome with
                  | true =>
                    rw [hR] at C ok1
                    have HC := hd C
                    have H := hd (YS.out P hno.out ok1 (by omega) hle)
                    clear C ok1 hR hb ho
                    go_wp2_with (go_at_call 30; refine HC.out.mono ?_; rintro e w' ⟨rfl, hb2⟩)
                    go_ret2
                    rw [H.out]
                    exact ⟨rfl, below_tr hb2 Hb.out⟩
                  | false =>
                    rw [hR] at C ok1
                    have HC := hd C
                    have HN := hd (show ∀ q, 1 ≤ q → q < P + 1 → ok q = false from fun q h1 h2 => by
                      by_cases e : q = P
                      · subst e; exact ok1
                      · exact hno.out q h1 (by omega))
                    clear C ok1 hR hb ho
                    go_wp2_with (go_at_call 30; refine HC.out.mono ?_; rintro e w' ⟨rfl, hb2⟩)
                    go_roundw
                    case rel => exact ⟨P + 1, by go_num, by omega, by omega, by omega, HN, own_below Ho.out hb2, below_tr hb2 Hb.out⟩
                    case measure => simp [intOf]; omega
                · have H := hd (NS.out (fun q h1 h2 => hno.out q h1 (by omega)))
                  go_wp2
                  go_ret2
                  rw [H.out]
                  exact ⟨rfl, hb⟩
end Go.Proofs.Ytpnbjfhcnjdohaa
