/- Open shops: whether starts are a plan: contracts. -/
import Derived.Test.YtkaopdpdfbkchaaShpB
namespace Go.Proofs.Ytkaopdpdfbkchaa
open Go.RowKit Plain
set_option linter.unusedVariables false
set_option linter.unusedSimpArgs false
attribute [local go_sem ↓] Go.wp_at_zero Go.wp_at_succ
set_option maxHeartbeats 8000000 in
theorem IsOpenPlan_any (b c b2 c2 m n s : Nat) (t a : Nat → Nat) (w : World) (h : ShT w b c m n s t) (hA : FA w b2 0 c2 s (natF a)) (ha : ∀ i, i < s → a i ≤ 1000000) :
    Calls Try.prog 8 #[.slice (some ⟨b, 0, none⟩) s c, .int .i64 m, .slice (some ⟨b2, 0, none⟩) s c2] w fun r w' => ∃ v : Bool, r = .returned (.tuple #[.bool v, .bool true]) ∧ (v = true ↔ ∀ x y, x < s → y < x → nearS m x y → aptS a t x y) ∧ Below w.heap.size w w' := by
  have AS := hd (fun (w' : World) (hb : Below w.heap.size w w') => asShop_any b c m n s t w' (h.below hb))
  have ST := hd (fun (w' : World) (hb : Below w.heap.size w w') => areStarts_any b2 c2 s a w' (hA.below hb) h.k.s8 ha)
  have AP := hd (fun (x y : Nat) (hx : x < s) (hy : y < s) (v : Bool) (hv : v = true ↔ aptS a t x y) (w' : World) => apart_any (a x) (t x) (a y) (t y) w' (ha x hx) (ha y hy) (by have := h.r x hx; omega) (by have := h.r y hy; omega) v hv)
  have HT := hd (fun (w' : World) (hb : Below w.heap.size w w') => (h.below hb).f.cl)
  have HS := hd (fun (w' : World) (hb : Below w.heap.size w w') => (hA.below hb).cl)
  have m1 := h.k.m1
  have m3 := h.k.m3
  have s8 := h.k.s8
  clear h hA ha
  unfold shV at AS
  go_enter Try.func8, Try.ntmps8
  go_wp2_with (first
    | (go_at_call 17; refine (AS.out _ (by go_grown)).mono ?_; rintro e w' ⟨rfl, hb⟩; have HB := hd hb; clear hb)
    | (go_at_call 20; refine (ST.out _ (HB.out.alloc HB.out.size _)).mono ?_; rintro e w2 ⟨rfl, hw⟩; subst hw))
  obtain ⟨w1, hw1⟩ : ∃ w1, w1 = w'.alloc (.cells #[.slice (some ⟨b, 0, none⟩) s c, .int .i64 n, .int .i64 m] 42) := ⟨_, rfl⟩
  obtain ⟨g, hg⟩ : ∃ g, g = w'.heap.size := ⟨_, rfl⟩
  have HX := hd (show w1.heap[g]? = some (.cells #[.slice (some ⟨b, 0, none⟩) s c, .int .i64 n, .int .i64 m] 42 (0, 0)) by rw [hw1, hg]; exact heap_alloc_new _ _)
  have HB1 := hd (show Below w.heap.size w w1 by rw [hw1]; exact HB.out.alloc HB.out.size _)
  rw [← hw1, ← hg]
  clear hw1 hg
  obtain ⟨x0, x1, x2⟩ := three_cells HX.out
  clear x0 x1
  have CT := hd (HT.out _ HB1.out)
  have CS := hd (HS.out _ HB1.out)
  clear HT HS HB ST AS HX
  go_loopw [29] (fun iv wr => ∃ x q : Nat, x ≤ s ∧ iv = .int .i64 x ∧ Hid (∀ x' y, x' < x → y < x' → nearS m x' y → aptS a t x' y) ∧ wr = w1.drewN q) (fun iv _ => s - (intOf iv).toNat)
  case atStart => exact ⟨0, 0, by omega, rfl, hd (fun x' y h => by omega), rfl⟩
  case round =>
    obtain ⟨x, q, hx, rfl, hall, hw⟩ := hrel
    subst hw
    by_cases hlt : x < s
    · have k2 : (x : Int) < (s : Int) := Int.ofNat_lt.2 hlt
      go_wp2
      go_loopw [33] (fun iv wr => ∃ y q : Nat, y ≤ x ∧ iv = .int .i64 y ∧ Hid (∀ y', y' < y → nearS m x y' → aptS a t x y') ∧ wr = w1.drewN q) (fun iv _ => x - (intOf iv).toNat)
      case atStart => exact ⟨0, q, by omega, rfl, hd (fun y h => by omega), rfl⟩
      case round =>
        obtain ⟨y, q2, hy, rfl, hin, hw⟩ := hrel
        subst hw
        by_cases hlt2 : y < x
        · have k3 : (y : Int) < (x : Int) := Int.ofNat_lt.2 hlt2
          have c1 := CT.out x hlt
          have c2' := CT.out y (by omega)
          have c3 := CS.out x hlt
          have c4 := CS.out y (by omega)
          rw [Nat.zero_add] at c1 c2' c3 c4
          have dx : (x : Int).tdiv (m : Int) = ((x / m : Nat) : Int) := by rw [Int.tdiv_eq_ediv_of_nonneg (by omega)]; rfl
          have dy : (y : Int).tdiv (m : Int) = ((y / m : Nat) : Int) := by rw [Int.tdiv_eq_ediv_of_nonneg (by omega)]; rfl
          have ex : (x : Int).tmod (m : Int) = ((x % m : Nat) : Int) := by rw [Int.tmod_eq_emod_of_nonneg (by omega)]; rfl
          have ey : (y : Int).tmod (m : Int) = ((y % m : Nat) : Int) := by rw [Int.tmod_eq_emod_of_nonneg (by omega)]; rfl
          have lx : x / m ≤ x := Nat.div_le_self _ _
          have ly : y / m ≤ y := Nat.div_le_self _ _
          have hm0 : ¬ m = 0 := by omega
          have hmm : ¬ (m : Int) = -1 := by omega
          obtain ⟨v, hv⟩ : ∃ v : Bool, v = true ↔ aptS a t x y := by
            by_cases h : aptS a t x y
            · exact ⟨true, by simp [h]⟩
            · exact ⟨false, by simp [h]⟩
          have A1 := hd (fun w' => AP.out x y hlt (by omega) v hv w')
          have HV := hd hv
          have HN := hd (show nearS m x y ↔ x / m = y / m ∨ x % m = y % m from Iff.rfl)
          clear hv
          unfold natF at c1 c2' c3 c4
          have STEP := hd (fun (h : aptS a t x y) => show ∀ y', y' < y + 1 → nearS m x y' → aptS a t x y' from fun y' hy' hn => by
            by_cases e : y' = y
            · subst e; exact h
            · exact hin.out y' (by omega) hn)
          have STEN := hd (fun (h : ¬ nearS m x y) => show ∀ y', y' < y + 1 → nearS m x y' → aptS a t x y' from fun y' hy' hn => by
            by_cases e : y' = y
            · subst e; exact absurd hn h
            · exact hin.out y' (by omega) hn)
          have BADS := hd (fun (h : nearS m x y) (h2 : ¬ aptS a t x y) => show (false = true ↔ ∀ x y, x < s → y < x → nearS m x y → aptS a t x y) from ⟨(fun h => by cases h), (fun hh => absurd (hh x y hlt hlt2 h) h2)⟩)
          generalize hjx : x / m = jx at *
          generalize hjy : y / m = jy at *
          generalize hkx : x % m = kx at *
          generalize hky : y % m = ky at *
          generalize hax : a x = ax at *
          generalize hay : a y = ay at *
          generalize htx : t x = tx at *
          generalize hty : t y = ty at *
          clear hjx hjy hkx hky hax hay htx hty hin
          have wjx : IntKind.i64.wrap (jx : Int) = (jx : Int) := IntWalk.i64_in _ (by omega)
          have wjy : IntKind.i64.wrap (jy : Int) = (jy : Int) := IntWalk.i64_in _ (by omega)
          by_cases e1 : jx = jy
          · subst e1
            have b1 : ((jx : Int) == (jx : Int)) = true := by simp
            cases v with
            | true =>
              go_wp2_with fail
              refine wp_region_quiet_lit (by kernel_rfl) (by kernel_rfl) ?_
              go_big_quiet_step (fail); go_big_quiet_step (fail); go_big_quiet_step (fail); go_big_quiet_step (fail); go_big_quiet_step (fail); go_big_quiet_step (fail); go_big_quiet_step (fail); go_big_quiet_step (fail)
              go_big_quiet_step (fail); go_big_quiet_step (fail); go_big_quiet_step (fail); go_big_quiet_step (fail); go_big_quiet_step (fail); go_big_quiet_step (fail); go_big_quiet_step (fail); go_big_quiet_step (fail)
              go_big_quiet_step (fail); go_big_quiet_step (fail); go_big_quiet_step (fail); go_big_quiet_step (fail); go_big_quiet_step (fail); go_big_quiet_step (fail); go_big_quiet_step (fail); go_big_quiet_step (fail)
              go_big_quiet_step (fail); go_big_quiet_step (fail); go_big_quiet_step (fail); go_big_quiet_step (fail); go_big_quiet_step (fail); go_big_quiet_step (fail); go_big_quiet_step (fail); go_big_quiet_step (fail)
              go_big_quiet_step (fail); go_big_quiet_step (fail); go_big_quiet_step (fail); go_big_quiet_step (fail); go_big_quiet_step (fail)
              go_big_quiet_step ((go_at_call 21; exact (A1.out _).mono fun _ _ h => ⟨h.1, _, h.2⟩))
              go_big_quiet_step (fail); go_big_quiet_step (fail)
              refine wpQuiet_nil ?_; intro _ hw'; obtain ⟨nq, hw''⟩ := hw'; subst hw''
              go_wp2
              go_roundw
              case rel => exact ⟨y + 1, _, by omega, by go_num, hd (STEP.out (HV.out.1 (by simp))), rfl⟩
              case measure => simp [intOf]; omega
            | false =>
              go_wp2_with fail
              refine wp_region_quiet_lit (by kernel_rfl) (by kernel_rfl) ?_
              go_big_quiet_step (fail); go_big_quiet_step (fail); go_big_quiet_step (fail); go_big_quiet_step (fail); go_big_quiet_step (fail); go_big_quiet_step (fail); go_big_quiet_step (fail); go_big_quiet_step (fail)
              go_big_quiet_step (fail); go_big_quiet_step (fail); go_big_quiet_step (fail); go_big_quiet_step (fail); go_big_quiet_step (fail); go_big_quiet_step (fail); go_big_quiet_step (fail); go_big_quiet_step (fail)
              go_big_quiet_step (fail); go_big_quiet_step (fail); go_big_quiet_step (fail); go_big_quiet_step (fail); go_big_quiet_step (fail); go_big_quiet_step (fail); go_big_quiet_step (fail); go_big_quiet_step (fail)
              go_big_quiet_step (fail); go_big_quiet_step (fail); go_big_quiet_step (fail); go_big_quiet_step (fail); go_big_quiet_step (fail); go_big_quiet_step (fail); go_big_quiet_step (fail); go_big_quiet_step (fail)
              go_big_quiet_step (fail); go_big_quiet_step (fail); go_big_quiet_step (fail); go_big_quiet_step (fail); go_big_quiet_step (fail)
              go_big_quiet_step ((go_at_call 21; exact (A1.out _).mono fun _ _ h => ⟨h.1, _, h.2⟩))
              go_big_quiet_step (fail); go_big_quiet_step (fail)
              refine wpQuiet_nil ?_; intro _ hw'; obtain ⟨nq, hw''⟩ := hw'; subst hw''
              go_wp2
              go_ret2
              exact ⟨false, rfl, BADS.out (HN.out.2 (by simp)) (fun h => by have := HV.out.2 h; cases this), below_drewN (below_drewN HB1.out _) _⟩
          · have b1 : ((jx : Int) == (jy : Int)) = false := by simp; omega
            by_cases e2 : kx = ky
            · subst e2
              cases v with
              | true =>
                go_wp2_with fail
                refine wp_region_quiet_lit (by kernel_rfl) (by kernel_rfl) ?_
                go_big_quiet_step (fail); go_big_quiet_step (fail); go_big_quiet_step (fail); go_big_quiet_step (fail); go_big_quiet_step (fail); go_big_quiet_step (fail); go_big_quiet_step (fail); go_big_quiet_step (fail)
                go_big_quiet_step (fail); go_big_quiet_step (fail); go_big_quiet_step (fail); go_big_quiet_step (fail); go_big_quiet_step (fail); go_big_quiet_step (fail); go_big_quiet_step (fail); go_big_quiet_step (fail)
                go_big_quiet_step (fail); go_big_quiet_step (fail); go_big_quiet_step (fail); go_big_quiet_step (fail); go_big_quiet_step (fail); go_big_quiet_step (fail); go_big_quiet_step (fail); go_big_quiet_step (fail)
                go_big_quiet_step (fail); go_big_quiet_step (fail); go_big_quiet_step (fail); go_big_quiet_step (fail); go_big_quiet_step (fail); go_big_quiet_step (fail); go_big_quiet_step (fail); go_big_quiet_step (fail)
                go_big_quiet_step (fail); go_big_quiet_step (fail); go_big_quiet_step (fail); go_big_quiet_step (fail); go_big_quiet_step (fail)
                go_big_quiet_step ((go_at_call 21; exact (A1.out _).mono fun _ _ h => ⟨h.1, _, h.2⟩))
                go_big_quiet_step (fail); go_big_quiet_step (fail)
                refine wpQuiet_nil ?_; intro _ hw'; obtain ⟨nq, hw''⟩ := hw'; subst hw''
                go_wp2
                go_roundw
                case rel => exact ⟨y + 1, _, by omega, by go_num, hd (STEP.out (HV.out.1 (by simp))), rfl⟩
                case measure => simp [intOf]; omega
              | false =>
                go_wp2_with fail
                refine wp_region_quiet_lit (by kernel_rfl) (by kernel_rfl) ?_
                go_big_quiet_step (fail); go_big_quiet_step (fail); go_big_quiet_step (fail); go_big_quiet_step (fail); go_big_quiet_step (fail); go_big_quiet_step (fail); go_big_quiet_step (fail); go_big_quiet_step (fail)
                go_big_quiet_step (fail); go_big_quiet_step (fail); go_big_quiet_step (fail); go_big_quiet_step (fail); go_big_quiet_step (fail); go_big_quiet_step (fail); go_big_quiet_step (fail); go_big_quiet_step (fail)
                go_big_quiet_step (fail); go_big_quiet_step (fail); go_big_quiet_step (fail); go_big_quiet_step (fail); go_big_quiet_step (fail); go_big_quiet_step (fail); go_big_quiet_step (fail); go_big_quiet_step (fail)
                go_big_quiet_step (fail); go_big_quiet_step (fail); go_big_quiet_step (fail); go_big_quiet_step (fail); go_big_quiet_step (fail); go_big_quiet_step (fail); go_big_quiet_step (fail); go_big_quiet_step (fail)
                go_big_quiet_step (fail); go_big_quiet_step (fail); go_big_quiet_step (fail); go_big_quiet_step (fail); go_big_quiet_step (fail)
                go_big_quiet_step ((go_at_call 21; exact (A1.out _).mono fun _ _ h => ⟨h.1, _, h.2⟩))
                go_big_quiet_step (fail); go_big_quiet_step (fail)
                refine wpQuiet_nil ?_; intro _ hw'; obtain ⟨nq, hw''⟩ := hw'; subst hw''
                go_wp2
                go_ret2
                exact ⟨false, rfl, BADS.out (HN.out.2 (by simp)) (fun h => by have := HV.out.2 h; cases this), below_drewN (below_drewN HB1.out _) _⟩
            · have b2 : ((kx : Int) == (ky : Int)) = false := by simp; omega
              go_wp2_with fail
              refine wp_region_quiet_lit (by kernel_rfl) (by kernel_rfl) ?_
              go_big_quiet_step (fail); go_big_quiet_step (fail); go_big_quiet_step (fail); go_big_quiet_step (fail); go_big_quiet_step (fail); go_big_quiet_step (fail); go_big_quiet_step (fail); go_big_quiet_step (fail)
              go_big_quiet_step (fail); go_big_quiet_step (fail); go_big_quiet_step (fail); go_big_quiet_step (fail); go_big_quiet_step (fail); go_big_quiet_step (fail); go_big_quiet_step (fail); go_big_quiet_step (fail)
              go_big_quiet_step (fail); go_big_quiet_step (fail); go_big_quiet_step (fail); go_big_quiet_step (fail); go_big_quiet_step (fail); go_big_quiet_step (fail); go_big_quiet_step (fail); go_big_quiet_step (fail)
              go_big_quiet_step (fail); go_big_quiet_step (fail); go_big_quiet_step (fail); go_big_quiet_step (fail); go_big_quiet_step (fail); go_big_quiet_step (fail); go_big_quiet_step (fail); go_big_quiet_step (fail)
              go_big_quiet_step (fail); go_big_quiet_step (fail); go_big_quiet_step (fail); go_big_quiet_step (fail); go_big_quiet_step (fail)
              go_big_quiet_step (fail)
              go_big_quiet_step (fail); go_big_quiet_step (fail)
              refine wpQuiet_nil ?_; intro _ hw'; obtain ⟨nq, hw''⟩ := hw'; subst hw''
              go_wp2
              go_roundw
              case rel => exact ⟨y + 1, _, by omega, by go_num, hd (STEN.out (fun h => by rcases HN.out.1 h with h | h; exact e1 h; exact e2 h)), rfl⟩
              case measure => simp [intOf]; omega
        · obtain rfl : x = y := by omega
          go_wp2
          go_roundw
          case rel => exact ⟨x + 1, q2, by omega, by go_num, hd (fun x' y hx' hy' hn => by
            by_cases e : x' = x
            · subst e; exact hin.out y hy' hn
            · exact hall.out x' y (by omega) hy' hn), rfl⟩
          case measure => simp [intOf]; omega
    · obtain rfl : s = x := by omega
      go_wp2
      go_ret2
      exact ⟨true, rfl, ⟨fun _ => hall.out, fun _ => rfl⟩, below_drewN HB1.out _⟩
end Go.Proofs.Ytkaopdpdfbkchaa
