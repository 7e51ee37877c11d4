/- The bound of a shop with routes: the contract. -/
import Derived.Test.YtkaopdpdfbkchaaShpN
namespace Go.Proofs.Ytkaopdpdfbkchaa.Plain
set_option linter.unusedVariables false
set_option linter.unusedSimpArgs false
/-- the greatest sum of a job, of the first steps -/
def moR (m s : Nat) (t : Nat → Nat) : Nat → Nat
  | 0 => 0
  | i + 1 => max (moR m s t i) (jobS m t (fun _ => true) s (i / m))
theorem moR_le {m s c : Nat} {t : Nat → Nat} (h : ∀ j, jobS m t (fun _ => true) s j ≤ c) : ∀ i, moR m s t i ≤ c
  | 0 => Nat.zero_le _
  | i + 1 => by have := moR_le h i; have := h (i / m); rw [moR]; omega
theorem moR_ex {m n s : Nat} {t : Nat → Nat} (hs : s = n * m) : ∀ i, i ≤ s → 1 ≤ i → ∃ j, j < n ∧ moR m s t i = jobS m t (fun _ => true) s j
  | 0, _, h => by omega
  | i + 1, hi, _ => by
    have hq : i / m < n := Nat.div_lt_of_lt_mul (by rw [Nat.mul_comm, ← hs]; omega)
    rw [moR]
    by_cases h : moR m s t i ≤ jobS m t (fun _ => true) s (i / m)
    · exact ⟨i / m, hq, by omega⟩
    · by_cases h1 : 1 ≤ i
      · obtain ⟨j, h2, h3⟩ := moR_ex (t := t) hs i (by omega) h1
        exact ⟨j, h2, by omega⟩
      · rw [show i = 0 by omega] at h
        exact absurd (Nat.zero_le _) h
theorem macR_succ (ro t : Nat → Nat) (i k : Nat) : macR ro t (fun _ => true) (i + 1) k = if k = ro i then macR ro t (fun _ => true) i k + t i else macR ro t (fun _ => true) i k := by
  unfold macR
  rw [ldN]
  by_cases e : k = ro i
  · rw [if_pos e, if_pos (by simp [e])]
  · rw [if_neg e, if_neg (by simp; exact fun h => e h.symm), Nat.add_zero]
end Go.Proofs.Ytkaopdpdfbkchaa.Plain
namespace Go.Proofs.Ytkaopdpdfbkchaa
open Go.RowKit Plain
set_option linter.unusedVariables false
set_option linter.unusedSimpArgs false
attribute [local go_sem ↓] Go.wp_at_zero Go.wp_at_succ
def BoundOut (m n s : Nat) (ro t : Nat → Nat) (w : World) (r : Ending) (w' : World) : Prop := ∃ B : Nat, r = .returned (.tuple #[.int .i64 B, .bool true]) ∧ LowR m n s ro t B ∧ Below w.heap.size w w'
set_option maxRecDepth 100000 in
set_option maxHeartbeats 4000000 in
theorem ShopBound_any (b2 c2 b c m n s : Nat) (ro t : Nat → Nat) (w : World) (hr : RtT w b2 c2 m n s ro) (h : ShT w b c m n s t) :
    Calls Try.prog 12 #[.slice (some ⟨b2, 0, none⟩) s c2, .slice (some ⟨b, 0, none⟩) s c, .int .i64 m] w (BoundOut m n s ro t w) := by
  have RO := hd (routed_any b2 c2 b c m n s ro t w hr h)
  have OF := hd (fun (j : Nat) (hj : j < n) (w' : World) (hb : Below w.heap.size w w') => shopOf_any b c m n s j t w' (h.below hb) hj)
  have HT := hd (fun (w' : World) (hb : Below w.heap.size w w') => (h.below hb).f.cl)
  have HRo := hd (fun (w' : World) (hb : Below w.heap.size w w') => (hr.below hb).f.cl)
  have BT := hd h.r
  have HK := hd h.k
  have m1 := h.k.m1
  have m3 := h.k.m3
  have n1 := h.k.n1
  have n4 := h.k.n4
  have s8 := h.k.s8
  have s1 := h.k.s1
  have key : ∀ P i, i ≤ s → ldN P t i ≤ 72 := fun P i hi => Nat.le_trans (ldN_bd (c := 9) fun x hx => (h.r x (by omega)).2) (by omega)
  have HMO := hd (fun i => moR_le (m := m) (s := s) (t := t) (c := 72) (fun j => key _ s (Nat.le_refl _)) i)
  have HMC := hd (fun i k (hi : i ≤ s) => show macR ro t (fun _ => true) i k ≤ 72 from key _ i hi)
  have hro : ∀ x, x < s → ro x < m := fun x hx => by
    have hq : x / m < n := Nat.div_lt_of_lt_mul (by rw [Nat.mul_comm, ← h.k.e]; exact hx)
    have := (hr.p (x / m) hq).lt (x % m) (Nat.mod_lt _ (by omega))
    have e : x / m * m + x % m = x := by rw [Nat.mul_comm]; exact Nat.div_add_mod x m
    show ro x < m
    rw [← e]; exact this
  have HRO := hd hro
  have hbw : b < w.heap.size := block_lt_of_cell (h.f.cl 0 (by omega))
  have hbw2 : b2 < w.heap.size := block_lt_of_cell (hr.f.cl 0 (by omega))
  have HBW := hd (And.intro hbw hbw2)
  clear h hr key hro hbw hbw2
  unfold shV at RO OF
  have hmk := fun W => run_mk 25 2 Try.underlying25 info_int m (by omega) W
  go_enter Try.func12, Try.ntmps12
  go_wp2_with fail
  go_at_call 23
  refine RO.out.mono ?_; rintro e w' ⟨rfl, hb⟩
  clear RO
  go_wp2_with fail
  obtain ⟨w1, hw1⟩ : ∃ w1, w1 = w'.alloc (.cells #[.slice (some ⟨b, 0, none⟩) s c, .int .i64 n, .int .i64 m] 42) := ⟨_, rfl⟩
  obtain ⟨g, hg⟩ : ∃ g, g = w'.heap.size := ⟨_, rfl⟩
  obtain ⟨go, hgo⟩ : ∃ go, go = w'.heap.size + 1 := ⟨_, rfl⟩
  have HX := hd (show w1.heap[g]? = some (.cells #[.slice (some ⟨b, 0, none⟩) s c, .int .i64 n, .int .i64 m] 42 (0, 0)) by rw [hw1, hg]; exact heap_alloc_new _ _)
  have HB1 := hd (show Below w.heap.size w w1 by rw [hw1]; exact hb.alloc hb.size _)
  have hsz : w1.heap.size = go := by rw [hw1, hgo]; simp
  have HG := hd (show g < w1.heap.size by rw [hsz, hgo, hg]; omega)
  have HGO := hd hsz
  obtain ⟨w2, hw2⟩ : ∃ w2, w2 = w1.alloc (.cells (madeCells #[.int .i64 0] m) 2) := ⟨_, rfl⟩
  have HO2 := hd (show OwnE 2 w2 w1.heap.size go m m (fun _ => 0) by
    have h := OwnE.made 2 w1 m w1.heap.size (Nat.le_refl _) (by omega)
    rw [hw2]
    rw [hsz] at h ⊢
    exact h)
  have HB2 := hd (show Below w1.heap.size w1 w2 by rw [hw2]; exact (Below.refl _ _).alloc (Nat.le_refl _) _)
  rw [← hgo, ← hg, ← hw1]
  rw [← hw2]
  clear hw1 hg hb hgo hw2 hsz hmk
  go_loopw [10, 28] (fun mv iv wr => ∃ i : Nat, i ≤ s ∧ iv = .int .i64 i ∧ mv = .int .i64 (moR m s t i) ∧ Hid (OwnE 2 wr w1.heap.size go m m (natF (macR ro t (fun _ => true) i))) ∧ Hid (Below w1.heap.size w1 wr)) (fun _ iv _ => s - (intOf iv).toNat)
  case atStart => exact ⟨0, by omega, rfl, rfl, HO2, HB2⟩
  case round =>
    clear HO2 HB2
    obtain ⟨i, hi, rfl, rfl, HO, HB⟩ := hrel
    have HBw := hd (HB1.out.trans (HB.out.mono HB1.out.size))
    by_cases hlt : i < s
    · have i2 : (i : Int) < (s : Int) := Int.ofNat_lt.2 hlt
      have cT := HT.out _ HBw.out i hlt
      have cR := HRo.out _ HBw.out i hlt
      rw [Nat.zero_add] at cT cR
      unfold natF at cT cR
      obtain ⟨x0, x1, x2⟩ := three_cells ((HB.out.block _ HG.out).trans HX.out)
      have hk := HRO.out i hlt
      have hq : i / m < n := Nat.div_lt_of_lt_mul (by rw [Nat.mul_comm, ← HK.out.e]; exact hlt)
      obtain ⟨qq, hqq⟩ : ∃ qq, qq = i / m := ⟨_, rfl⟩
      have HMS := hd (show moR m s t (i + 1) = max (moR m s t i) (jobS m t (fun _ => true) s qq) by rw [hqq]; rfl)
      have dx : (i : Int).tdiv (m : Int) = (qq : Int) := by rw [hqq, Int.tdiv_eq_ediv_of_nonneg (by omega)]; rfl
      have hq2 : qq ≤ i := by rw [hqq]; exact Nat.div_le_self _ _
      rw [← hqq] at hq
      have OFi := hd (OF.out qq hq)
      have wjx : IntKind.i64.wrap (qq : Int) = (qq : Int) := IntWalk.i64_in _ (by omega)
      have hmx := fun ts ty w => run_max_s ts ty (moR m s t i) (jobS m t (fun _ => true) s qq) w
      have HOS := hd (fun (w' : World) (ho : w'.ownsRow w1.heap.size 2 1 (.slice (some ⟨go, 0, none⟩) m m) m (((fL m (natF (macR ro t (fun _ => true) i))).map vi).set (ro i) (.int .i64 ((macR ro t (fun _ => true) i (ro i) + t i : Nat) : Int)))) => show OwnE 2 w' w1.heap.size go m m (natF (macR ro t (fun _ => true) (i + 1))) from (OwnE.set ho hk).same fun k _ => by
        show (if k = ro i then ((macR ro t (fun _ => true) i (ro i) + t i : Nat) : Int) else (macR ro t (fun _ => true) i k : Int)) = (macR ro t (fun _ => true) (i + 1) k : Int)
        rw [macR_succ]
        by_cases e : k = ro i
        · rw [if_pos e, if_pos e, e]
        · rw [if_neg e, if_neg e])
      have cO := HO.out.at hk
      unfold natF at cO
      have ht9 := (BT.out i hlt).2
      have hmc := HMC.out i (ro i) hi
      generalize macR ro t (fun _ => true) i (ro i) = mc at *
      have hwe : IntKind.i64.wrap ((mc : Int) + (t i : Int)) = ((mc + t i : Nat) : Int) := by rw [IntWalk.i64_in _ (by omega)]; push_cast; rfl
      rw [← HMS.out] at hmx
      generalize moR m s t i = mo at *
      obtain ⟨mo2, hmo2⟩ : ∃ mo2, mo2 = moR m s t (i + 1) := ⟨_, rfl⟩
      rw [← hmo2] at hmx
      have HMO2 := hd (show moR m s t (i + 1) = mo2 from hmo2.symm)
      clear hmo2
      generalize jobS m t (fun _ => true) s qq = jq at *
      have hkm : (ro i : Int) < (m : Int) := by omega
      generalize ro i = ki at *
      generalize t i = ti at *
      obtain ⟨me, hme⟩ : ∃ me, me = mc + ti := ⟨_, rfl⟩
      rw [← hme] at hwe HOS
      have hm0 : ¬ m = 0 := by omega
      have hmm : ¬ (m : Int) = -1 := by omega
      have hggo : g ≠ go := by have := HG.out; have := HGO.out; omega
      clear hqq hme HMS ht9 hmc
      go_wp2_with ((with_reducible refine wpList_store_own _ w1.heap.size 2 1 m m go _ HO.out size_int ki (.int .i64 (me : Int)) ?_ ?_ ?_ ?_ ?_); exact rfl; exact rfl; exact rfl; omega; intro w7 ho7 hg7; replace x0 := hg7.cell x0 (by simp; exact hggo); replace x1 := hg7.cell x1 (by simp; exact hggo); replace x2 := hg7.cell x2 (by simp; exact hggo))
      have HO7 := hd (HOS.out w7 ho7)
      have HB7 := hd (below_row hg7 HB.out (fun k e => by cases e; exact Nat.le_of_eq HGO.out))
      clear HOS ho7 hg7 cO cR cT
      refine' Code.wp_mono (ExPost0.imp (X := fun w' => OwnE 2 w' w1.heap.size go m m (natF (macR ro t (fun _ => true) (i + 1))) ∧ Below w1.heap.size w1 w') (mk := _) ?_) ?_
      rotate_left 2
      focus
        have AF := hd (fun (w' : World) (hb : Below w7.heap.size w7 w') => show w'.cell? ⟨g, 0, none⟩ = some (.slice (some ⟨b, 0, none⟩) s c) ∧ w'.cell? ⟨g, 1, none⟩ = some (.int .i64 n) ∧ w'.cell? ⟨g, 2, none⟩ = some (.int .i64 m) from ⟨below_at hb x0, below_at hb x1, below_at hb x2⟩)
        go_region_held3 (fun w' => w'.cell? ⟨g, 0, none⟩ = some (.slice (some ⟨b, 0, none⟩) s c) ∧ w'.cell? ⟨g, 1, none⟩ = some (.int .i64 n) ∧ w'.cell? ⟨g, 2, none⟩ = some (.int .i64 m)) (((try simp only [cell_drew_own]); first | with_reducible exact ⟨x0, x1, x2⟩ | with_reducible exact hkk)) (first | (go_simp; go_at_call 27; refine (OFi.out _ (HB1.out.trans (HB7.out.mono HB1.out.size)).drew).mono ?_; rintro e w3 ⟨rfl, hb3⟩; have hkk := AF.out w3 (below_tr hb3 (Below.refl _ _).drew)))
        refine ⟨?_, own_below HO7.out (below_tr hb3 (Below.refl _ _).drew), below_tr hb3 HB7.out.drew⟩
        exact rfl
      rintro w9 ⟨ho9, hb9⟩
      have HO9 := hd ho9
      have HB9 := hd hb9
      clear ho9 hb9 x0 x1 x2 hmx OFi
      go_wp2
      go_roundw
      case rel => exact ⟨i + 1, by omega, by go_num, by rw [HMO2.out], HO9, HB9⟩
      case measure => simp [intOf]; omega
    · obtain rfl : s = i := by omega
      obtain ⟨M, hM⟩ := endR_ex (macR ro t (fun _ => true) s) m m1
      have SMX := hd (slicesMax_any (.slice (some ⟨go, 0, none⟩) m m) (fL m (natF (macR ro t (fun _ => true) s))) wr (((show OwnL wr w1.heap.size go m m (natF (macR ro t (fun _ => true) s)) from HO.out).fa (by omega)).slf (by omega)) (by rw [fL_len]; omega))
      rw [maxTo_is (m := (M : Int)) (fun k hk => by have := hM.1 k hk; unfold natF; omega) (by obtain ⟨k, h1, h2⟩ := hM.2; exact ⟨k, h1, by unfold natF; omega⟩)] at SMX
      have hmx := fun ts ty w => run_max_s ts ty (moR m s t s) M w
      have HLOW := hd (show LowR m n s ro t (max (moR m s t s) M) from by
        obtain ⟨j, hj1, hj2⟩ := moR_ex (t := t) HK.out.e s (Nat.le_refl _) s1
        obtain ⟨k, hk1, hk2⟩ := hM.2
        by_cases h : moR m s t s ≤ M
        · exact .inr ⟨k, hk1, by omega⟩
        · exact .inl ⟨j, hj1, by omega⟩)
      clear hM
      generalize moR m s t s = mo at *
      obtain ⟨lo, hlo⟩ : ∃ lo, lo = max mo M := ⟨_, rfl⟩
      rw [← hlo] at hmx HLOW
      clear hlo
      go_wp2_with (go_at_call 19; refine SMX.out.mono ?_; rintro e w' ⟨rfl, hw⟩; replace hw := hw.symm; subst hw)
      go_ret2
      exact ⟨lo, rfl, HLOW.out, HBw.out⟩
end Go.Proofs.Ytkaopdpdfbkchaa
