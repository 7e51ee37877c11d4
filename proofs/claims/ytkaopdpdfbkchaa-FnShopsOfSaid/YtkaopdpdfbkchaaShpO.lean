/- Plans of a shop with routes are told; the bound: contracts. -/
import Derived.Test.YtkaopdpdfbkchaaShpN
namespace Go.Proofs.Ytkaopdpdfbkchaa
open Go.RowKit Plain
set_option linter.unusedVariables false
set_option linter.unusedSimpArgs false
attribute [local go_sem ↓] Go.wp_at_zero Go.wp_at_succ
def IsShopOut (m s : Nat) (ro t a : Nat → Nat) (w : World) (r : Ending) (w' : World) : Prop := ∃ v : Bool, r = .returned (.tuple #[.bool v, .bool true]) ∧ (v = true ↔ PlanR m s ro t a) ∧ Below w.heap.size w w'
set_option maxRecDepth 100000 in
set_option maxHeartbeats 8000000 in
theorem IsShopPlan_any (b2 c2 b c ba ca m n s : Nat) (ro t a : Nat → Nat) (w : World) (hr : RtT w b2 c2 m n s ro) (h : ShT w b c m n s t) (hA : FA w ba 0 ca s (natF a)) (ha : ∀ i, i < s → a i ≤ 1000000) :
    Calls Try.prog 11 #[.slice (some ⟨b2, 0, none⟩) s c2, .slice (some ⟨b, 0, none⟩) s c, .int .i64 m, .slice (some ⟨ba, 0, none⟩) s ca] w (IsShopOut m s ro t a w) := by
  have RO := hd (routed_any b2 c2 b c m n s ro t w hr h)
  have ST := hd (fun (w' : World) (hb : Below w.heap.size w w') => areStarts_any ba ca s a w' (hA.below hb) h.k.s8 ha)
  have AP := hd (fun (x y : Nat) (hx : x < s) (hy : y < s) (v : Bool) (hv : v = true ↔ aptS a t x y) (w' : World) => apart_any (a x) (t x) (a y) (t y) w' (ha x hx) (ha y hy) (by have := h.r x hx; omega) (by have := h.r y hy; omega) v hv)
  have HT := hd (fun (w' : World) (hb : Below w.heap.size w w') => (h.below hb).f.cl)
  have HS := hd (fun (w' : World) (hb : Below w.heap.size w w') => (hA.below hb).cl)
  have HRo := hd (fun (w' : World) (hb : Below w.heap.size w w') => (hr.below hb).f.cl)
  have BA := hd ha
  have BT := hd h.r
  have m1 := h.k.m1
  have m3 := h.k.m3
  have s8 := h.k.s8
  clear h hA ha hr
  unfold shV at RO
  go_enter Try.func11, Try.ntmps11
  go_wp2_with fail
  go_at_call 23
  refine RO.out.mono ?_; rintro e w' ⟨rfl, hb⟩
  clear RO
  go_wp2_with fail
  obtain ⟨w1, hw1⟩ : ∃ w1, w1 = w'.alloc (.cells #[.slice (some ⟨b, 0, none⟩) s c, .int .i64 n, .int .i64 m] 42) := ⟨_, rfl⟩
  obtain ⟨g, hg⟩ : ∃ g, g = w'.heap.size := ⟨_, rfl⟩
  have HX := hd (show w1.heap[g]? = some (.cells #[.slice (some ⟨b, 0, none⟩) s c, .int .i64 n, .int .i64 m] 42 (0, 0)) by rw [hw1, hg]; exact heap_alloc_new _ _)
  have HB1 := hd (show Below w.heap.size w w1 by rw [hw1]; exact hb.alloc hb.size _)
  rw [← hw1, ← hg]
  clear hw1 hg hb
  go_at_call 20
  refine (ST.out _ HB1.out).mono ?_; rintro e w2 ⟨rfl, hw⟩; subst hw
  obtain ⟨x0, x1, x2⟩ := three_cells HX.out
  clear x0 x1
  have CT := hd (HT.out _ HB1.out)
  have CS := hd (HS.out _ HB1.out)
  have CR := hd (HRo.out _ HB1.out)
  clear HT HS HRo ST HX
  go_wp2_with fail
  go_loopw [32] (fun iv wr => ∃ x q : Nat, x ≤ s ∧ iv = .int .i64 x ∧ Hid (∀ x', x' < x → 0 < x' % m → a (x' - 1) + t (x' - 1) ≤ a x') ∧ Hid (∀ x' y, x' < x → y < x' → ro x' = ro y → aptS a t x' y) ∧ wr = w2.drewN q) (fun iv _ => s - (intOf iv).toNat)
  case atStart => exact ⟨0, 0, by omega, rfl, hd (fun x' h => by omega), hd (fun x' y h => by omega), rfl⟩
  case round =>
    obtain ⟨x, q, hx, rfl, hseq, hall, hw⟩ := hrel
    subst hw
    by_cases hlt : x < s
    · have k2 : (x : Int) < (s : Int) := Int.ofNat_lt.2 hlt
      have ex : (x : Int).tmod (m : Int) = ((x % m : Nat) : Int) := by rw [Int.tmod_eq_emod_of_nonneg (by omega)]; rfl
      have hm0 : ¬ m = 0 := by omega
      have hmm : ¬ (m : Int) = -1 := by omega
      have hmx : x % m ≤ x := Nat.mod_le _ _
      obtain ⟨V, hV⟩ : ∃ V : Bool, V = true ↔ (0 < x % m ∧ ¬ a (x - 1) + t (x - 1) ≤ a x) := by
        by_cases h : 0 < x % m ∧ ¬ a (x - 1) + t (x - 1) ≤ a x
        · exact ⟨true, by simp [h]⟩
        · exact ⟨false, by simp only [Bool.false_eq_true, false_iff]; exact h⟩
      have HV := hd hV
      have c3 := CS.out x hlt
      rw [Nat.zero_add] at c3
      unfold natF at c3
      go_wp2
      go_upto_region 7 with fail
      go_cut [57] from 35 to 57 (fun c wx => c = .bool V ∧ ∃ k, wx = w2.drewN k)
      case first =>
        by_cases h0 : 0 < x % m
        · have c1 := CT.out (x - 1) (by omega)
          have c4 := CS.out (x - 1) (by omega)
          rw [Nat.zero_add] at c1 c4
          unfold natF at c1 c4
          have hb1 := BA.out (x - 1) (by omega)
          have hb2 := (BT.out (x - 1) (by omega)).2
          have hw1 : IntKind.i64.wrap ((a (x - 1) : Int) + (t (x - 1) : Int)) = (a (x - 1) : Int) + (t (x - 1) : Int) := IntWalk.i64_in _ (by omega)
          have HV1 := hd (show a (x - 1) + t (x - 1) ≤ a x → V = false from fun h => by
            cases V with
            | false => rfl
            | true => exact absurd h (hV.1 rfl).2)
          have HV2 := hd (show ¬ a (x - 1) + t (x - 1) ≤ a x → V = true from fun h => hV.2 ⟨h0, h⟩)
          obtain ⟨z, hz⟩ : ∃ z, z = x - 1 := ⟨_, rfl⟩
          have hzi : IntKind.i64.wrap ((x : Int) - 1) = (z : Int) := by rw [IntWalk.i64_in _ (by omega)]; omega
          have hzl : (z : Int) < (s : Int) := by omega
          rw [← hz] at c1 c4 hw1 HV1 HV2
          clear hz hV hb1 hb2
          have d0 : decide ((x % m : Nat) > (0 : Int)) = true := decide_eq_true (by omega)
          have d0' : decide ((0 : Int) < (x % m : Nat)) = true := decide_eq_true (by omega)
          generalize x % m = xm at *
          generalize a z = az at *
          generalize t z = tz at *
          generalize a x = ax at *
          by_cases hl : az + tz ≤ ax
          · have hVf := hd (HV1.out hl)
            have d1 : decide ((ax : Int) < (az : Int) + (tz : Int)) = false := decide_eq_false (by omega)
            refine wp_region_quiet_lit (by kernel_rfl) (by kernel_rfl) ?_
            go_big_quiet_step (fail); go_big_quiet_step (fail); go_big_quiet_step (fail); go_big_quiet_step (fail); go_big_quiet_step (fail); go_big_quiet_step (fail)
            go_big_quiet_step (fail); go_big_quiet_step (fail); go_big_quiet_step (fail); go_big_quiet_step (fail); go_big_quiet_step (fail); go_big_quiet_step (fail)
            go_big_quiet_step (fail); go_big_quiet_step (fail); go_big_quiet_step (fail); go_big_quiet_step (fail); go_big_quiet_step (fail); go_big_quiet_step (fail)
            go_big_quiet_step (fail); go_big_quiet_step (fail); go_big_quiet_step (fail); go_big_quiet_step (fail); go_big_quiet_step (fail)
            refine wpQuiet_nil ?_; intro _ hw'; obtain ⟨nq, hw''⟩ := hw'; subst hw''
            go_wp2
            go_meet
            exact ⟨by rw [hVf.out], drew2 _ _ _⟩
          · have hVf := hd (HV2.out hl)
            have d1 : decide ((ax : Int) < (az : Int) + (tz : Int)) = true := decide_eq_true (by omega)
            refine wp_region_quiet_lit (by kernel_rfl) (by kernel_rfl) ?_
            go_big_quiet_step (fail); go_big_quiet_step (fail); go_big_quiet_step (fail); go_big_quiet_step (fail); go_big_quiet_step (fail); go_big_quiet_step (fail)
            go_big_quiet_step (fail); go_big_quiet_step (fail); go_big_quiet_step (fail); go_big_quiet_step (fail); go_big_quiet_step (fail); go_big_quiet_step (fail)
            go_big_quiet_step (fail); go_big_quiet_step (fail); go_big_quiet_step (fail); go_big_quiet_step (fail); go_big_quiet_step (fail); go_big_quiet_step (fail)
            go_big_quiet_step (fail); go_big_quiet_step (fail); go_big_quiet_step (fail); go_big_quiet_step (fail); go_big_quiet_step (fail)
            refine wpQuiet_nil ?_; intro _ hw'; obtain ⟨nq, hw''⟩ := hw'; subst hw''
            go_wp2
            go_meet
            exact ⟨by rw [hVf.out], drew2 _ _ _⟩
        · have hVf := hd (show V = false from by
            cases V with
            | false => rfl
            | true => exact absurd (hV.1 rfl).1 h0)
          have d0 : decide ((x % m : Nat) > (0 : Int)) = false := decide_eq_false (by omega)
          have d0' : decide ((0 : Int) < (x % m : Nat)) = false := decide_eq_false (by omega)
          clear hV
          generalize x % m = xm at *
          refine wp_region_quiet_lit (by kernel_rfl) (by kernel_rfl) ?_
          go_big_quiet_step (fail); go_big_quiet_step (fail); go_big_quiet_step (fail); go_big_quiet_step (fail); go_big_quiet_step (fail); go_big_quiet_step (fail)
          go_big_quiet_step (fail); go_big_quiet_step (fail); go_big_quiet_step (fail); go_big_quiet_step (fail); go_big_quiet_step (fail); go_big_quiet_step (fail)
          go_big_quiet_step (fail); go_big_quiet_step (fail); go_big_quiet_step (fail); go_big_quiet_step (fail); go_big_quiet_step (fail); go_big_quiet_step (fail)
          go_big_quiet_step (fail); go_big_quiet_step (fail); go_big_quiet_step (fail); go_big_quiet_step (fail); go_big_quiet_step (fail)
          refine wpQuiet_nil ?_; intro _ hw'; obtain ⟨nq, hw''⟩ := hw'; subst hw''
          go_wp2
          go_meet
          exact ⟨by rw [hVf.out], drew2 _ _ _⟩
      case rest =>
      obtain ⟨rfl, k7, hw7⟩ := hcut
      replace hw7 := hw7.symm
      subst hw7
      clear ex hmx hV c3
      cases V with
      | true =>
        have HF := hd (HV.out.1 rfl)
        go_wp2
        go_ret2
        have hx0 := HF.out
        exact ⟨false, rfl, ⟨(fun h => by cases h), fun hp => absurd (hp.sq x hlt hx0.1) hx0.2⟩, below_drewN HB1.out _⟩
      | false =>
        have HSQ := hd (show ∀ x', x' < x + 1 → 0 < x' % m → a (x' - 1) + t (x' - 1) ≤ a x' from fun x' hx' h0 => by
          by_cases e : x' = x
          · subst e
            exact Classical.byContradiction fun hc => by have := HV.out.2 ⟨h0, hc⟩; cases this
          · exact hseq.out x' (by omega) h0)
        clear HV
        go_wp2
        go_loopw [59] (fun iv wr => ∃ y q : Nat, y ≤ x ∧ iv = .int .i64 y ∧ Hid (∀ y', y' < y → ro x = ro y' → aptS a t x y') ∧ wr = w2.drewN q) (fun iv _ => x - (intOf iv).toNat)
        case atStart => exact ⟨0, k7, by omega, rfl, hd (fun y h => by omega), rfl⟩
        case round =>
          obtain ⟨y, q2, hy, rfl, hin, hw⟩ := hrel
          subst hw
          by_cases hlt2 : y < x
          · have k3 : (y : Int) < (x : Int) := Int.ofNat_lt.2 hlt2
            have k4 : (y : Int) < (s : Int) := by omega
            have c1 := CT.out x hlt
            have c2' := CT.out y (by omega)
            have c3 := CS.out x hlt
            have c4 := CS.out y (by omega)
            have c5 := CR.out x hlt
            have c6 := CR.out y (by omega)
            rw [Nat.zero_add] at c1 c2' c3 c4 c5 c6
            unfold natF at c1 c2' c3 c4 c5 c6
            obtain ⟨v, hv⟩ : ∃ v : Bool, v = true ↔ aptS a t x y := by
              by_cases h : aptS a t x y
              · exact ⟨true, by simp [h]⟩
              · exact ⟨false, by simp [h]⟩
            have A1 := hd (fun w' => AP.out x y hlt (by omega) v hv w')
            have HV2 := hd hv
            clear hv
            have STEP := hd (fun (h : ro x = ro y → aptS a t x y) => show ∀ y', y' < y + 1 → ro x = ro y' → aptS a t x y' from fun y' hy' hn => by
              by_cases e : y' = y
              · subst e; exact h hn
              · exact hin.out y' (by omega) hn)
            have BADS := hd (fun (h : ro x = ro y) (h2 : ¬ aptS a t x y) => show (false = true ↔ PlanR m s ro t a) from ⟨(fun h => by cases h), (fun hp => absurd (hp.ap x y hlt hlt2 h) h2)⟩)
            have HN := hd (show ro x = ro y ↔ ro x = ro y from Iff.rfl)
            by_cases e1 : ro x = ro y
            · have HE1 := hd e1
              rw [e1] at c5
              clear e1
              have b1 : ((ro y : Int) == (ro y : Int)) = true := by simp
              generalize ro y = kx at *
              generalize a x = ax at *
              generalize a y = ay at *
              generalize t x = tx at *
              generalize t y = ty at *
              clear hin
              cases v with
              | true =>
                have HST := hd (STEP.out (fun _ => HV2.out.1 rfl))
                clear STEP BADS
                go_wp2
                refine wp_region_quiet_lit (by kernel_rfl) (by kernel_rfl) ?_
                go_big_quiet_step (fail); go_big_quiet_step (fail); go_big_quiet_step (fail); go_big_quiet_step (fail); go_big_quiet_step (fail); go_big_quiet_step (fail)
                go_big_quiet_step (fail); go_big_quiet_step (fail); go_big_quiet_step (fail); go_big_quiet_step (fail); go_big_quiet_step (fail); go_big_quiet_step (fail)
                go_big_quiet_step (fail); go_big_quiet_step (fail); go_big_quiet_step (fail); go_big_quiet_step (fail); go_big_quiet_step (fail); go_big_quiet_step (fail)
                go_big_quiet_step (fail); go_big_quiet_step (fail); go_big_quiet_step (fail); go_big_quiet_step (fail); go_big_quiet_step (fail); go_big_quiet_step (fail)
                go_big_quiet_step (fail); go_big_quiet_step (fail)
                go_big_quiet_step (((go_at_call 21; exact (A1.out _).mono fun _ _ h => ⟨h.1, _, h.2⟩)))
                go_big_quiet_step (fail); go_big_quiet_step (fail)
                refine wpQuiet_nil ?_; intro _ hw'; obtain ⟨nq, hw''⟩ := hw'; subst hw''
                go_wp2
                go_roundw
                case rel => exact ⟨y + 1, _, by omega, by go_num, HST, rfl⟩
                case measure => simp [intOf]; omega
              | false =>
                have HST := hd (BADS.out HE1.out (fun h => by have := HV2.out.2 h; cases this))
                clear STEP BADS
                go_wp2
                refine wp_region_quiet_lit (by kernel_rfl) (by kernel_rfl) ?_
                go_big_quiet_step (fail); go_big_quiet_step (fail); go_big_quiet_step (fail); go_big_quiet_step (fail); go_big_quiet_step (fail); go_big_quiet_step (fail)
                go_big_quiet_step (fail); go_big_quiet_step (fail); go_big_quiet_step (fail); go_big_quiet_step (fail); go_big_quiet_step (fail); go_big_quiet_step (fail)
                go_big_quiet_step (fail); go_big_quiet_step (fail); go_big_quiet_step (fail); go_big_quiet_step (fail); go_big_quiet_step (fail); go_big_quiet_step (fail)
                go_big_quiet_step (fail); go_big_quiet_step (fail); go_big_quiet_step (fail); go_big_quiet_step (fail); go_big_quiet_step (fail); go_big_quiet_step (fail)
                go_big_quiet_step (fail); go_big_quiet_step (fail)
                go_big_quiet_step (((go_at_call 21; exact (A1.out _).mono fun _ _ h => ⟨h.1, _, h.2⟩)))
                go_big_quiet_step (fail); go_big_quiet_step (fail)
                refine wpQuiet_nil ?_; intro _ hw'; obtain ⟨nq, hw''⟩ := hw'; subst hw''
                go_wp2
                go_ret2
                exact ⟨false, rfl, HST.out, below_drewN (below_drewN HB1.out _) _⟩
            · have b1 : ((ro x : Int) == (ro y : Int)) = false := by simp; omega
              have HST := hd (STEP.out (fun h => absurd h e1))
              clear STEP BADS e1 hin
              generalize ro x = kx at *
              generalize ro y = ky at *
              go_wp2
              refine wp_region_quiet_lit (by kernel_rfl) (by kernel_rfl) ?_
              go_big_quiet_step (fail); go_big_quiet_step (fail); go_big_quiet_step (fail); go_big_quiet_step (fail); go_big_quiet_step (fail); go_big_quiet_step (fail)
              go_big_quiet_step (fail); go_big_quiet_step (fail); go_big_quiet_step (fail); go_big_quiet_step (fail); go_big_quiet_step (fail); go_big_quiet_step (fail)
              go_big_quiet_step (fail); go_big_quiet_step (fail); go_big_quiet_step (fail); go_big_quiet_step (fail); go_big_quiet_step (fail); go_big_quiet_step (fail)
              go_big_quiet_step (fail); go_big_quiet_step (fail); go_big_quiet_step (fail); go_big_quiet_step (fail); go_big_quiet_step (fail); go_big_quiet_step (fail)
              go_big_quiet_step (fail); go_big_quiet_step (fail)
              go_big_quiet_step (fail)
              go_big_quiet_step (fail); go_big_quiet_step (fail)
              refine wpQuiet_nil ?_; intro _ hw'; obtain ⟨nq, hw''⟩ := hw'; subst hw''
              go_wp2
              go_roundw
              case rel => exact ⟨y + 1, _, by omega, by go_num, HST, rfl⟩
              case measure => simp [intOf]; omega
          · obtain rfl : x = y := by omega
            go_wp2
            go_roundw
            case rel => exact ⟨x + 1, q2, by omega, by go_num, HSQ, hd (fun x' y hx' hy' hn => by
              by_cases e : x' = x
              · subst e; exact hin.out y hy' hn
              · exact hall.out x' y (by omega) hy' hn), rfl⟩
            case measure => simp [intOf]; omega
    · obtain rfl : s = x := by omega
      go_wp2
      go_ret2
      exact ⟨true, rfl, ⟨fun _ => ⟨hseq.out, hall.out⟩, fun _ => rfl⟩, below_drewN HB1.out _⟩
end Go.Proofs.Ytkaopdpdfbkchaa
