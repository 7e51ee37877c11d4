/- Shops: their records, sums and bounds: contracts. -/
import Derived.Test.YtkaopdpdfbkchaaLinA
import Derived.Test.YtkaopdpdfbkchaaShpU
import Derived.Test.YtkaopdpdfbkchaaCmpI
import Derived.Laws.Rows
import Derived.Laws.ResultCell
namespace Go.Proofs.Ytkaopdpdfbkchaa
open Go.RowKit Plain
set_option linter.unusedVariables false
set_option linter.unusedSimpArgs false
attribute [local go_sem ↓] Go.wp_at_zero Go.wp_at_succ
/-- a small shop: the size of its list -/
structure ShK (m n s : Nat) : Prop where
  m1 : 1 ≤ m
  m3 : m ≤ 3
  n1 : 1 ≤ n
  n4 : n ≤ 4
  e : s = n * m
  s8 : s ≤ 8
/-- the times of a shop -/
def natF (t : Nat → Nat) : Nat → Int := fun i => (t i : Int)
structure ShT (w : World) (b c m n s : Nat) (t : Nat → Nat) : Prop where
  k : ShK m n s
  r : ∀ i, i < s → 1 ≤ t i ∧ t i ≤ 9
  f : FA w b 0 c s (natF t)
theorem ShT.below {w w' : World} {b c m n s : Nat} {t : Nat → Nat} (h : ShT w b c m n s t) (hb : Below w.heap.size w w') : ShT w' b c m n s t := ⟨h.k, h.r, h.f.below hb⟩
theorem ShK.rem {m n s : Nat} (h : ShK m n s) : (s : Int).tmod (m : Int) = 0 := by
  rw [h.e, Int.tmod_eq_emod_of_nonneg (by omega)]
  push_cast
  exact Int.mul_emod_left _ _
theorem ShK.quo {m n s : Nat} (h : ShK m n s) : (s : Int).tdiv (m : Int) = n := by
  have := h.m1
  rw [h.e, Int.tdiv_eq_ediv_of_nonneg (by omega)]
  push_cast
  exact Int.mul_ediv_cancel _ (by omega)
theorem three_cells {w : World} {g t : Nat} {x y z : Value} {fr : Nat × Nat} (h : w.heap[g]? = some (.cells #[x, y, z] t fr)) : w.cell? ⟨g, 0, none⟩ = some x ∧ w.cell? ⟨g, 1, none⟩ = some y ∧ w.cell? ⟨g, 2, none⟩ = some z := by
  refine ⟨?_, ?_, ?_⟩ <;> simp [World.cell?, h]
theorem run_max_l (ts : Array TypeId) (t : TypeId) (a b : Int) (w : World) : (Builtin.max_ ts t #[.int .i64 a, .int .i64 b]).run Try.prog w = .ok (.int .i64 (if a < b then b else a)) w := by
  simp only [Builtin.max_, List.foldlM_cons, List.foldlM_nil, Builtin.max2]
  by_cases h : a < b
  · simp [go_sem, h]
  · simp [go_sem, h]
theorem run_max_s (ts : Array TypeId) (t : TypeId) (a b : Nat) (w : World) : (Builtin.max_ ts t #[.int .i64 (a : Int), .int .i64 (b : Int)]).run Try.prog w = .ok (.int .i64 ((max a b : Nat) : Int)) w := by
  have h := run_max_l ts t a b w
  rw [h]
  by_cases e : (a : Int) < (b : Int)
  · rw [if_pos e]; congr 2; omega
  · rw [if_neg e]; congr 2; omega
set_option maxHeartbeats 400000 in
theorem areMachines_any (m : Nat) (w : World) (h1 : 1 ≤ m) (h3 : m ≤ 3) :
    Calls Try.prog 31 #[.int .i64 m] w fun r w' => r = .returned (.bool true) ∧ w' = w := by
  go_enter Try.func31, Try.ntmps31
  go_wp2_with (go_at_call 39; refine (within_t _ _ _ _ (inR_iff.2 (by omega))).mono ?_; rintro e w' ⟨rfl, hw⟩; subst hw)
  go_ret
  exact ⟨rfl, rfl⟩
set_option maxHeartbeats 1000000 in
theorem unlikeJobs_any (b c m n s : Nat) (t : Nat → Nat) (w : World) (h : ShT w b c m n s t) :
    Calls Try.prog 35 #[.slice (some ⟨b, 0, none⟩) s c, .int .i64 m] w fun r w' => r = .returned (.tuple #[.int .i64 n, .bool true]) ∧ w' = w := by
  have AM := hd (areMachines_any m w h.k.m1 h.k.m3)
  have AW := hd (areWithin_any (.slice (some ⟨b, 0, none⟩) s c) (fL s (natF t)) 1 10000 w (h.f.slf (by have := h.k.s8; omega)))
  have ha : (fL s (natF t)).all (inR · 1 10000) = true := fL_all fun i hi => by have := h.r i hi; unfold natF; omega
  rw [ha] at AW
  have hr := h.k.rem
  have hq := h.k.quo
  have hm := h.k.m1
  have hm3 := h.k.m3
  have hn := h.k.n1
  have hn4 := h.k.n4
  have hs8 := h.k.s8
  clear h ha
  have hm0 : ¬ (m : Int) = 0 := by omega
  have hmm : ¬ (m : Int) = -1 := by omega
  have n24 : (n : Int) ≤ 24 := by omega
  have hn0 : (1 : Int) ≤ n := by omega
  go_enter Try.func35, Try.ntmps35
  go_wp2_with (first
    | (go_at_call 31; refine AM.out.mono ?_; rintro e w' ⟨rfl, hw⟩; subst hw)
    | (go_at_call 24; refine AW.out.mono ?_; rintro e w' ⟨rfl, hw⟩; subst hw))
  go_ret2
  exact ⟨by simp [n24], rfl⟩
/-- a shop as a value -/
def shV (b c m n s : Nat) : Value := .agg #[.slice (some ⟨b, 0, none⟩) s c, .int .i64 n, .int .i64 m]
theorem size_shop : (Try.prog.info? 42).map (·.size) = some 3 := by kernel_rfl
set_option maxHeartbeats 1000000 in
theorem asShop_any (b c m n s : Nat) (t : Nat → Nat) (w : World) (h : ShT w b c m n s t) :
    Calls Try.prog 17 #[.slice (some ⟨b, 0, none⟩) s c, .int .i64 m] w fun r w' => r = .returned (.tuple #[shV b c m n s, .bool true]) ∧ Below w.heap.size w w' := by
  have UJ := hd (fun (w' : World) (hb : Below w.heap.size w w') => unlikeJobs_any b c m n s t w' (h.below hb))
  clear h
  go_enter Try.func17, Try.ntmps17
  go_wp2_with (go_at_call 35; refine (UJ.out _ (by go_grown)).mono ?_; rintro e w' ⟨rfl, hw⟩; subst hw)
  have hg := heap_alloc_new w (.cells #[.slice (some ⟨b, 0, none⟩) s c, .int .i64 n, .int .i64 m] 42)
  refine bodyPost_ret (v := .tuple #[shV b c m n s, .bool true]) ?_ rfl ⟨rfl, by go_grown⟩
  rw [results_cell_tmp rfl]
  simp [asAddr, Result.andThen, run_loadVar_row _ w.heap.size _ _ _ _ _ hg Try.underlying42 rfl size_shop, shV]
set_option maxHeartbeats 1000000 in
theorem shopAt_any (b c m n s j k : Nat) (t : Nat → Nat) (w : World) (h : ShT w b c m n s t) (hj : j < n) (hk : k < m) :
    Calls Try.prog 43 #[shV b c m n s, .int .i64 j, .int .i64 k] w fun r w' => r = .returned (.int .i64 (t (j * m + k))) ∧ Below w.heap.size w w' := by
  have hlt : j * m + k < s := by rw [h.k.e]; exact row_lt hj hk
  have c1 : ∀ o, (w.alloc o).cell? ⟨b, 0 + (j * m + k), none⟩ = some (.int .i64 (t (j * m + k))) := fun o => (h.f.below ((Below.refl _ _).alloc (Nat.le_refl _) o)).cl _ hlt
  have s8 := h.k.s8
  clear h
  obtain ⟨x, hx⟩ : ∃ x, x = j * m := ⟨_, rfl⟩
  have hx2 : (j : Int) * m = x := by rw [hx]; push_cast; rfl
  rw [← hx] at c1 hlt ⊢
  simp only [Nat.zero_add] at c1
  clear hx
  generalize t (x + k) = y at *
  go_enter Try.func43, Try.ntmps43
  unfold shV
  go_wp2
  go_ret
  exact ⟨rfl, by go_grown⟩
set_option maxHeartbeats 1000000 in
theorem shopOf_any (b c m n s j : Nat) (t : Nat → Nat) (w : World) (h : ShT w b c m n s t) (hj : j < n) :
    Calls Try.prog 27 #[shV b c m n s, .int .i64 j] w fun r w' => r = .returned (.int .i64 (jobS m t (fun _ => true) s j)) ∧ Below w.heap.size w w' := by
  have h1 : (j + 1) * m ≤ s := by rw [h.k.e]; exact Nat.mul_le_mul_right m hj
  have h2 : (j + 1) * m = j * m + m := Nat.succ_mul _ _
  have SO := hd (fun (w' : World) (hb : Below w.heap.size w w') => sumOf_any b (0 + j * m) (c - j * m) m (fun i => natF t (j * m + i)) w' ⟨by have := h.f.nc; omega, fun i hi => by
    rw [Nat.add_assoc]; exact (h.f.below hb).cl _ (by omega)⟩ (by have := h.k.m3; omega) fun i hi => by have := h.r (j * m + i) (by omega); unfold natF; omega)
  have e : sumZ (fun i => natF t (j * m + i)) m = (jobS m t (fun _ => true) s j : Int) := by
    rw [h.k.e, ← jobS_row t hj]; exact sumZ_nat (fun i => t (j * m + i)) m
  rw [e] at SO
  have s8 := h.k.s8
  have hc := h.f.nc
  have m1 := h.k.m1
  have n4 := h.k.n4
  clear h e
  obtain ⟨x, hx⟩ : ∃ x, x = j * m := ⟨_, rfl⟩
  have hx2 : (j : Int) * m = x := by rw [hx]; push_cast; rfl
  have hx3 : ((j : Int) + 1) * m = (x : Int) + m := by rw [Int.add_mul, hx2, Int.one_mul]
  rw [h2] at h1
  rw [← hx] at h1 SO
  rw [Nat.zero_add] at SO
  clear hx h2
  generalize jobS m t (fun _ => true) s j = y at *
  go_enter Try.func27, Try.ntmps27
  unfold shV
  go_wp2_with (go_at_call 40; refine (SO.out _ (by go_grown)).mono ?_; rintro e w' ⟨rfl, hw⟩; subst hw)
  go_ret
  exact ⟨rfl, by go_grown⟩
set_option maxHeartbeats 1000000 in
theorem shopOn_any (b c m n s k : Nat) (t : Nat → Nat) (w : World) (h : ShT w b c m n s t) (hk : k < m) :
    Calls Try.prog 38 #[shV b c m n s, .int .i64 k] w fun r w' => r = .returned (.int .i64 (macS m t (fun _ => true) s k)) ∧ Below w.heap.size w w' := by
  have AT := hd (fun (j : Nat) (hj : j < n) (w' : World) (hb : Below w.heap.size w w') => shopAt_any b c m n s j k t w' (h.below hb) hj hk)
  have SB := hd (fun (j : Nat) (hj : j < n) => (h.r (j * m + k) (by rw [h.k.e]; exact row_lt hj hk)).2)
  have e : sumN (fun i => t (i * m + k)) n = macS m t (fun _ => true) s k := by rw [h.k.e]; exact macS_row t hk
  have n4 := h.k.n4
  clear h
  rw [← e]
  clear e
  obtain ⟨q, hq⟩ : ∃ q, q = sumN (fun i => t (i * m + k)) := ⟨_, rfl⟩
  have Q0 := hd (show q 0 = 0 by rw [hq]; rfl)
  have QS := hd (fun j => (show q (j + 1) = q j + t (j * m + k) by rw [hq]; rfl))
  rw [← hq]
  clear hq
  have Vk := hd (show shV b c m n s = .agg #[.slice (some ⟨b, 0, none⟩) s c, .int .i64 n, .int .i64 m] from rfl)
  go_enter Try.func38, Try.ntmps38
  unfold shV
  go_wp2
  obtain ⟨w1, hw1⟩ : ∃ w1, w1 = w.alloc (.cells #[.slice (some ⟨b, 0, none⟩) s c, .int .i64 n, .int .i64 m] 42) := ⟨_, rfl⟩
  have HX := hd (show w1.heap[w.heap.size]? = some (.cells #[.slice (some ⟨b, 0, none⟩) s c, .int .i64 n, .int .i64 m] 42 (0, 0)) by rw [hw1]; exact heap_alloc_new _ _)
  have HB := hd (show Below w.heap.size w w1 by rw [hw1]; go_grown)
  have hlt1 : w.heap.size < w1.heap.size := by rw [hw1]; simp
  rw [← hw1]
  clear hw1
  go_loopw [5, 9] (fun sv iv wr => ∃ j : Nat, j ≤ n ∧ iv = .int .i64 j ∧ sv = .int .i64 (q j) ∧ Hid (q j ≤ 9 * j) ∧ Hid (Below w1.heap.size w1 wr)) (fun _ iv _ => n - (intOf iv).toNat)
  case atStart => exact ⟨0, by omega, rfl, by rw [Q0.out]; rfl, hd (by rw [Q0.out]; omega), hd (Below.refl _ _)⟩
  case round =>
    obtain ⟨j, hj, rfl, rfl, hqj, hbr⟩ := hrel
    by_cases hlt : j < n
    · have k2 : (j : Int) < (n : Int) := Int.ofNat_lt.2 hlt
      obtain ⟨x0, x1, x2⟩ := three_cells ((hbr.out.block _ hlt1).trans HX.out)
      have A1 := hd (fun (w' : World) (hb : Below wr.heap.size wr w') => AT.out j hlt w' ((HB.out.trans (hbr.out.mono (Nat.le_of_lt hlt1))).trans (hb.mono (by have := hbr.out.size; omega))))
      have q1 := hqj.out
      have q2 := SB.out j hlt
      have q3 := QS.out j
      have hw3 : IntKind.i64.wrap ((q j : Int) + (t (j * m + k) : Int)) = q (j + 1) := by
        rw [q3]; push_cast; exact IntWalk.i64_in _ (by omega)
      have q4 := hd (show q (j + 1) ≤ 9 * (j + 1) by omega)
      clear q1 q2 q3
      generalize t (j * m + k) = y at *
      go_wp2_with (go_at_call 43; refine (A1.out _ (Below.refl _ _)).mono ?_; rintro e w2 ⟨rfl, hb2⟩; have HB2 := hd hb2; clear hb2)
      go_roundw
      case rel => exact ⟨j + 1, by omega, by go_num, by first | rfl | rw [hw3], q4, hd (hbr.out.trans (HB2.out.mono hbr.out.size))⟩
      case measure => simp [intOf]; omega
    · obtain rfl : n = j := by omega
      go_wp2
      go_ret
      exact ⟨rfl, HB.out.trans (hbr.out.mono (Nat.le_of_lt hlt1))⟩
set_option maxHeartbeats 2000000 in
theorem shopBound_any (b c m n s : Nat) (t : Nat → Nat) (w : World) (h : ShT w b c m n s t) :
    Calls Try.prog 22 #[shV b c m n s] w fun r w' => r = .returned (.int .i64 (bndM m s n t m)) ∧ Below w.heap.size w w' := by
  have OF := hd (fun (j : Nat) (hj : j < n) (w' : World) (hb : Below w.heap.size w w') => shopOf_any b c m n s j t w' (h.below hb) hj)
  have ON := hd (fun (k : Nat) (hk : k < m) (w' : World) (hb : Below w.heap.size w w') => shopOn_any b c m n s k t w' (h.below hb) hk)
  have n4 := h.k.n4
  have m3 := h.k.m3
  clear h
  obtain ⟨u, hu⟩ : ∃ u, u = bndJ m s t := ⟨_, rfl⟩
  have U0 := hd (show u 0 = 0 by rw [hu]; rfl)
  have US := hd (fun q => (show u (q + 1) = max (u q) (jobS m t (fun _ => true) s q) by rw [hu]; rfl))
  obtain ⟨v, hv⟩ : ∃ v, v = bndM m s n t := ⟨_, rfl⟩
  have V0 := hd (show v 0 = u n by rw [hu, hv]; rfl)
  have VS := hd (fun q => (show v (q + 1) = max (v q) (macS m t (fun _ => true) s q) by rw [hv]; rfl))
  rw [← hv]
  clear hv hu
  go_enter Try.func22, Try.ntmps22
  unfold shV
  go_wp2
  obtain ⟨w1, hw1⟩ : ∃ w1, w1 = w.alloc (.cells #[.slice (some ⟨b, 0, none⟩) s c, .int .i64 n, .int .i64 m] 42) := ⟨_, rfl⟩
  have HX := hd (show w1.heap[w.heap.size]? = some (.cells #[.slice (some ⟨b, 0, none⟩) s c, .int .i64 n, .int .i64 m] 42 (0, 0)) by rw [hw1]; exact heap_alloc_new _ _)
  have HB := hd (show Below w.heap.size w w1 by rw [hw1]; go_grown)
  have hlt1 : w.heap.size < w1.heap.size := by rw [hw1]; simp
  rw [← hw1]
  clear hw1
  go_loopw [3, 8] (fun sv iv wr => ∃ j : Nat, j ≤ n ∧ iv = .int .i64 j ∧ sv = .int .i64 (u j) ∧ Hid (Below w1.heap.size w1 wr)) (fun _ iv _ => n - (intOf iv).toNat)
  case atStart => exact ⟨0, by omega, rfl, by rw [U0.out]; rfl, hd (Below.refl _ _)⟩
  case round =>
    obtain ⟨j, hj, rfl, rfl, hbr⟩ := hrel
    obtain ⟨x0, x1, x2⟩ := three_cells ((hbr.out.block _ hlt1).trans HX.out)
    have HBr := hd (HB.out.trans (hbr.out.mono (Nat.le_of_lt hlt1)))
    by_cases hlt : j < n
    · have k2 : (j : Int) < (n : Int) := Int.ofNat_lt.2 hlt
      have A1 := hd (fun (w' : World) (hb : Below wr.heap.size wr w') => OF.out j hlt w' (HBr.out.trans (hb.mono HBr.out.size)))
      have us := hd (US.out j)
      generalize jobS m t (fun _ => true) s j = y at *
      have hmx := fun ts t w => run_max_s ts t (u j) y w
      go_wp2_with (go_at_call 27; refine (A1.out _ (Below.refl _ _)).mono ?_; rintro e w2 ⟨rfl, hb2⟩; have HB2 := hd hb2; clear hb2)
      go_roundw
      case rel => exact ⟨j + 1, by omega, by go_num, by first | rfl | rw [us.out], hd (hbr.out.trans (HB2.out.mono hbr.out.size))⟩
      case measure => simp [intOf]; omega
    · obtain rfl : n = j := by omega
      rw [← V0.out]
      obtain ⟨wT, hwT⟩ : ∃ wT, wT = wr := ⟨_, rfl⟩
      subst hwT
      go_wp2
      go_loopw [3, 19] (fun sv iv wr => ∃ j : Nat, j ≤ m ∧ iv = .int .i64 j ∧ sv = .int .i64 (v j) ∧ Hid (Below wT.heap.size wT wr)) (fun _ iv _ => m - (intOf iv).toNat)
      case atStart => exact ⟨0, by omega, rfl, rfl, hd (Below.refl _ _)⟩
      case round =>
        obtain ⟨j, hj, rfl, rfl, hbr2⟩ := hrel
        obtain ⟨x0, x1, x2⟩ := three_cells (((hbr.out.trans (hbr2.out.mono hbr.out.size)).block _ hlt1).trans HX.out)
        have HBs := hd (HBr.out.trans (hbr2.out.mono HBr.out.size))
        by_cases hlt : j < m
        · have k2 : (j : Int) < (m : Int) := Int.ofNat_lt.2 hlt
          have A1 := hd (fun (w' : World) (hb : Below wr.heap.size wr w') => ON.out j hlt w' (HBs.out.trans (hb.mono HBs.out.size)))
          have us := hd (VS.out j)
          generalize macS m t (fun _ => true) s j = y at *
          have hmx := fun ts t w => run_max_s ts t (v j) y w
          go_wp2_with (go_at_call 38; refine (A1.out _ (Below.refl _ _)).mono ?_; rintro e w2 ⟨rfl, hb2⟩; have HB2 := hd hb2; clear hb2)
          go_roundw
          case rel => exact ⟨j + 1, by omega, by go_num, by first | rfl | rw [us.out], hd (hbr2.out.trans (HB2.out.mono hbr2.out.size))⟩
          case measure => simp [intOf]; omega
        · obtain rfl : m = j := by omega
          go_wp2
          go_ret
          exact ⟨rfl, HBs.out⟩
end Go.Proofs.Ytkaopdpdfbkchaa
