/- The insertion sort of the library, with the closures of trips: a contract. -/
import Derived.Test.YtdkmloomlnljlaaProg
import Derived.Test.YtdkmloomlnljlaaKeyI
import Derived.Test.YtdkmloomlnljlaaSortT
import Derived.Test.YtdkmloomlnljlaaStoreOwn
namespace Go.Proofs.Ytdkmloomlnljlaa
open Go.RowKit Plain
set_option linter.unusedVariables false
set_option linter.unusedSimpArgs false
attribute [local go_sem ↓] Go.wp_at_zero Go.wp_at_succ
def keyL (l : List Q4) (x : Int) : Int := sS l x.toNat
theorem cmp_lt {x y : Int} (h : x < y) : cmpI x y = -1 := by rw [cmpI, if_pos h]
theorem cmp_ge {x y : Int} (h : ¬ x < y) : ¬ cmpI x y < 0 := by rw [cmpI, if_neg h]; split <;> omega
set_option maxHeartbeats 4000000 in
set_option maxRecDepth 100000 in
theorem insert_any (l : List Q4) (ht : tripsB l = true) (A : Option Addr) (n cap bT bK : Nat) (hn : l.length = n) (n1 : 1 ≤ n) (n24 : n ≤ 24) (w : World) (g cd base : Nat) (d : List Int) (ho : w.ownsRow base 2 1 (.slice (some ⟨g, 0, none⟩) n cd) n (d.map vi)) (hin : inL n d)
    (hk : KeyB w bT bK A n cap) (hr : Rd w 4 A n (q4s l)) (e1 : bT ≠ g) (e2 : bK ≠ g) (e3 : A.map (·.block) ≠ some g) :
    Calls Try.prog 37 #[.slice (some ⟨g, 0, none⟩) n cd, .int .i64 0, .int .i64 n, .func (.func 30) #[] #[.pointer (some ⟨bK, 0, none⟩)]] w fun r w' =>
      (∃ v, r = .returned v) ∧ w'.ownsRow base 2 1 (.slice (some ⟨g, 0, none⟩) n cd) n ((sortL (keyL l) d n).map vi) ∧ w.grownBy w' (some g) := by
  have hdl : d.length = n := by have := ho.1; rw [List.length_map] at this; omega
  have HO := hd ho
  have HIN := hd hin
  have HDL := hd hdl
  have LS := hd (fun (wr : World) (hg : w.grownBy wr (some g)) (i j : Nat) (hi : i < n) (hj : j < n) (m : Nat) => by
    have hk2 : KeyB wr bT bK A n cap := ⟨hg.cell hk.t (by simp; omega), hg.cell hk.k (by simp; omega)⟩
    have hr2 : Rd wr 4 A n (q4s l) := hr.grown hg (.inl e3)
    exact less_any l ht A n cap bT bK hn i j hi hj (wr.drewN m) ⟨hk2.t, hk2.k⟩ (show Rd (wr.drewN m) 4 A n (q4s l) from hr2))
  clear ho hin hdl hk hr ht hn
  go_enter Try.func37, Try.ntmps37
  go_upto_region 1 with fail
  go_loopw [8] (fun iv wr => ∃ i : Nat, 1 ≤ i ∧ i ≤ n ∧ iv = .int .i64 i ∧ Hid (wr.ownsRow base 2 1 (.slice (some ⟨g, 0, none⟩) n cd) n ((sortL (keyL l) d i).map vi)) ∧ Hid (w.grownBy wr (some g))) (fun iv _ => n - (intOf iv).toNat)
  case atStart => exact ⟨1, Nat.le_refl _, n1, rfl, HO, hd (World.grownBy.refl _ _)⟩
  case round =>
    obtain ⟨i, i1, hi, rfl, HOi, HG⟩ := hrel
    by_cases hlt : i < n
    · have i2 : (i : Int) < (n : Int) := Int.ofNat_lt.2 hlt
      go_wp2
      go_loopw [9] (fun jv wr => ∃ (j : Nat) (d' : List Int), j ≤ i ∧ jv = .int .i64 j ∧ Hid (sinkL (keyL l) j d' = sortL (keyL l) d (i + 1)) ∧ Hid (inL n d') ∧ Hid (d'.length = n) ∧ Hid (wr.ownsRow base 2 1 (.slice (some ⟨g, 0, none⟩) n cd) n (d'.map vi)) ∧ Hid (w.grownBy wr (some g))) (fun jv _ => (intOf jv).toNat)
      case atStart => exact ⟨i, sortL (keyL l) d i, Nat.le_refl _, rfl, hd rfl, hd (inL_sort _ HIN.out i (by have := HDL.out; omega)), hd (by rw [sortL_len]; exact HDL.out), HOi, HG⟩
      case round =>
        clear HOi HG
        obtain ⟨j, d', hj, rfl, HS, HI, HL, HO', HG⟩ := hrel
        rcases Nat.eq_zero_or_pos j with j0 | j0
        · subst j0
          have E := hd (show d' = sortL (keyL l) d (i + 1) from HS.out)
          go_wp2
          go_quiet (fail)
          go_wp2
          go_roundw
          case rel => exact ⟨i + 1, by omega, by omega, by go_num, hd (by rw [← E.out]; exact HO'.out), hd (HG.out.trans (below_all (below_drewN (Below.refl _ _) _) _))⟩
          case measure => simp [intOf]; omega
        · obtain ⟨k, hk⟩ : ∃ k, j = k + 1 := ⟨j - 1, by omega⟩
          have zi : (j : Int) - 1 = (k : Int) := by omega
          have jp : (0 : Int) < (j : Int) := by omega
          have jn : j < n := by omega
          have kn : k < n := by omega
          have jn2 : (j : Int) < (n : Int) := Int.ofNat_lt.2 jn
          have kn2 : (k : Int) < (n : Int) := Int.ofNat_lt.2 kn
          have hwj : IntKind.i64.wrap ((j : Int) - 1) = (k : Int) := by rw [zi]; exact IntWalk.i64_in _ (by omega)
          have bx := HI.out j (by rw [HL.out]; exact jn)
          have by' := HI.out k (by rw [HL.out]; exact kn)
          obtain ⟨xn, hx⟩ : ∃ xn : Nat, d'.getD j 0 = (xn : Int) := ⟨(d'.getD j 0).toNat, by omega⟩
          obtain ⟨yn, hy⟩ : ∃ yn : Nat, d'.getD k 0 = (yn : Int) := ⟨(d'.getD k 0).toNat, by omega⟩
          have hxn : xn < n := by omega
          have hyn : yn < n := by omega
          have cx : wr.cell? ⟨g, j, none⟩ = some (.int .i64 (xn : Int)) := by
            rw [HO'.out.cellAt j (by omega), List.getElem?_map, List.getElem?_eq_getElem (by rw [HL.out]; exact jn), Option.map_some]
            rw [List.getD_eq_getElem?_getD, List.getElem?_eq_getElem (by rw [HL.out]; exact jn)] at hx
            simp only [Option.getD_some] at hx
            rw [hx]; rfl
          have cy : wr.cell? ⟨g, k, none⟩ = some (.int .i64 (yn : Int)) := by
            rw [HO'.out.cellAt k (by omega), List.getElem?_map, List.getElem?_eq_getElem (by rw [HL.out]; exact kn), Option.map_some]
            rw [List.getD_eq_getElem?_getD, List.getElem?_eq_getElem (by rw [HL.out]; exact kn)] at hy
            simp only [Option.getD_some] at hy
            rw [hy]; rfl
          have fz : ∀ m, wr.frozen? ⟨g, m, none⟩ = false := by
            rcases HO'.out.2 with ⟨h5, _⟩ | ⟨g', cap', cur, h5, _, h6, _⟩
            · cases h5
            · cases h5
              exact fun m => frozen_of_row wr g m cur _ h6
          have fx := fz j
          have fy := fz k
          have LSx := LS.out wr HG.out xn yn hxn hyn
          have hkx : keyL l (d'.getD j 0) = sS l xn := by rw [hx, keyL, Int.toNat_natCast]
          have hky : keyL l (d'.getD k 0) = sS l yn := by rw [hy, keyL, Int.toNat_natCast]
          by_cases hc : sS l xn < sS l yn
          · have E := hd (show sinkL (keyL l) k (swapL d' k) = sortL (keyL l) d (i + 1) by
              rw [← HS.out, hk, sinkL, if_pos (by rw [← hk, hkx, hky]; exact hc)])
            have ESW := hd (show (d'.set j (yn : Int)).set k (xn : Int) = swapL d' k by rw [swapL, ← hk, hx, hy])
            have HI2 := hd (inL_swap HI.out (show k + 1 < d'.length by rw [HL.out]; omega))
            have HL2 := hd (show (swapL d' k).length = n by rw [swapL_len]; exact HL.out)
            rw [cmp_lt hc] at LSx
            have hjk : ¬ (j : Int) = (k : Int) := by omega
            have hjk2 : ¬ j = k := by omega
            have HKJ := hd hk
            clear hc hx hy hxn hyn bx by' hkx hky HS HI HL fz hk
            go_wp2
            go_quiet ((go_at_call 30; exact (LSx _).mono fun _ _ h => by obtain ⟨h1, m, h2⟩ := h; exact ⟨h1, _, by rw [h2, World.drewN_drewN]⟩))
            go_upto_region 6 with fail
            obtain ⟨W, hW⟩ : ∃ W, W = wr.drewN nq := ⟨_, rfl⟩
            have HOW := hd (show W.ownsRow base 2 1 (.slice (some ⟨g, 0, none⟩) n cd) n (d'.map vi) by rw [hW]; exact HO'.out)
            have HGW := hd (show w.grownBy W (some g) by rw [hW]; exact HG.out.trans (below_all (below_drewN (Below.refl _ _) _) _))
            have cx' : W.cell? ⟨g, j, none⟩ = some (.int .i64 (xn : Int)) := by rw [hW]; exact cx
            have cy' : W.cell? ⟨g, k, none⟩ = some (.int .i64 (yn : Int)) := by rw [hW]; exact cy
            have fx' : W.frozen? ⟨g, j, none⟩ = false := by rw [hW]; exact fx
            have fy' : W.frozen? ⟨g, k, none⟩ = false := by rw [hW]; exact fy
            rw [← hW]
            clear hW cx cy fx fy
            go_region
            have q1' := HOW.out.stored j (.int .i64 (yn : Int))
            have q2' := q1'.1.stored k (.int .i64 (xn : Int))
            have erow : ((d'.map vi).set j (.int .i64 (yn : Int))).set k (.int .i64 (xn : Int)) = (swapL d' k).map vi := by
              rw [← ESW.out, List.map_set, List.map_set]; rfl
            rw [erow] at q2'
            have hg9 : w.grownBy ((W.setCell ⟨g, j, none⟩ (.int .i64 (yn : Int))).setCell ⟨g, k, none⟩ (.int .i64 (xn : Int))).drew (some g) := (HGW.out.trans (q1'.2.trans q2'.2)).trans (below_all ((Below.refl _ _).drew) _)
            have ho9 : ((W.setCell ⟨g, j, none⟩ (.int .i64 (yn : Int))).setCell ⟨g, k, none⟩ (.int .i64 (xn : Int))).drew.ownsRow base 2 1 (.slice (some ⟨g, 0, none⟩) n cd) n ((swapL d' k).map vi) := q2'.1.drew
            obtain ⟨w9, hw9⟩ : ∃ w9, w9 = ((W.setCell ⟨g, j, none⟩ (.int .i64 (yn : Int))).setCell ⟨g, k, none⟩ (.int .i64 (xn : Int))).drew := ⟨_, rfl⟩
            rw [← hw9] at hg9 ho9 ⊢
            have HO9 := hd ho9
            have HG9 := hd hg9
            clear hw9 q1' q2' erow cx' cy' fx' fy' hg9 ho9 LSx
            go_wp2
            go_roundw
            case rel => exact ⟨k, swapL d' k, by have := HKJ.out; omega, by first | rfl | go_num, E, HI2, HL2, HO9, HG9⟩
            case measure => have := HKJ.out; simp [intOf]; omega
          · have E := hd (show d' = sortL (keyL l) d (i + 1) by
              rw [← HS.out, hk, sinkL, if_neg (by rw [← hk, hkx, hky]; exact hc)])
            have hz := cmp_ge hc
            clear hc hx hy hxn hyn bx by' hkx hky HS HI HL fz fx fy hk
            generalize cmpI (sS l xn) (sS l yn) = z at *
            go_wp2
            go_quiet ((go_at_call 30; exact (LSx _).mono fun _ _ h => by obtain ⟨h1, m, h2⟩ := h; exact ⟨h1, _, by rw [h2, World.drewN_drewN]⟩))
            go_wp2
            go_roundw
            case rel => exact ⟨i + 1, by omega, by omega, by go_num, hd (by rw [← E.out]; exact HO'.out), hd (HG.out.trans (below_all (below_drewN (Below.refl _ _) _) _))⟩
            case measure => simp [intOf]; omega
    · obtain rfl : i = n := by omega
      go_wp2
      refine bodyPost_end (results_none rfl _ _ _) rfl ?_
      exact ⟨⟨_, rfl⟩, HOi.out, HG.out⟩
end Go.Proofs.Ytdkmloomlnljlaa
