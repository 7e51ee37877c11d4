/- The library's stable sort of a short row, with the closure that compares keys: a contract. -/
import Derived.Test.YtjddlgmdbkaieaaProg
import Derived.Test.YtjddlgmdbkaieaaCmpI
import Derived.Test.YtjddlgmdbkaieaaSortT
import Derived.Test.YtjddlgmdbkaieaaStoreOwn
import Derived.Test.YtjddlgmdbkaieaaJobA
namespace Go.Proofs.Ytjddlgmdbkaieaa
open Go.RowKit Plain
set_option linter.unusedVariables false
set_option linter.unusedSimpArgs false
attribute [local go_sem ↓] Go.wp_at_zero Go.wp_at_succ
theorem cmp_lt {x y : Int} (h : x < y) : cmpI x y = -1 := by rw [cmpI, if_pos h]
theorem cmp_ge {x y : Int} (h : ¬ x < y) : ¬ cmpI x y < 0 := by rw [cmpI, if_neg h]; split <;> omega
/-- what a sort of a row leaves -/
def SortB (base g n cd : Nat) (d : List Int) (w : World) (r : Ending) (w' : World) : Prop := (∃ v, r = .returned v) ∧ w'.ownsRow base 2 1 (.slice (some ⟨g, 0, none⟩) n cd) n (d.map vi) ∧ w.grownBy w' (some g)
theorem inL_upTo (n : Nat) : inL n (upTo n) := by
  intro k hk
  rw [upTo_len] at hk
  rw [upTo, List.getD_eq_getElem?_getD, List.getElem?_map, List.getElem?_range hk]
  simp
  omega
theorem oneL_upTo (n : Nat) : oneL (upTo n) := by
  have e : ∀ k, k < n → (upTo n).getD k 0 = (k : Int) := fun k hk => by
    rw [upTo, List.getD_eq_getElem?_getD, List.getElem?_map, List.getElem?_range hk]; rfl
  intro a b ha hb h
  rw [upTo_len] at ha hb
  rw [e a ha, e b hb] at h
  omega
def CmpS (K : Int → Int) (n g bK : Nat) (w : World) : Prop := ∀ wr, w.grownBy wr (some g) → ∀ i j : Nat, i < n → j < n → ∀ m,
  Calls Try.prog 44 #[.int .i64 i, .int .i64 j, .pointer (some ⟨bK, 0, none⟩)] (wr.drewN m) fun r w' => r = .returned (.int .i64 (cmpI (K (i : Int)) (K (j : Int)))) ∧ ∃ k, w' = (wr.drewN m).drewN k
set_option maxHeartbeats 4000000 in
set_option maxRecDepth 100000 in
theorem insertS_any (K : Int → Int) (n bK : Nat) (n1 : 1 ≤ n) (n24 : n ≤ 24) (w : World) (g cd base : Nat) (d : List Int) (ho : w.ownsRow base 2 1 (.slice (some ⟨g, 0, none⟩) n cd) n (d.map vi)) (hin : inL n d) (hc : CmpS K n g bK w) :
    Calls Try.prog 48 #[.slice (some ⟨g, 0, none⟩) n cd, .int .i64 0, .int .i64 n, .func (.func 44) #[] #[.pointer (some ⟨bK, 0, none⟩)]] w fun r w' =>
      (∃ v, r = .returned v) ∧ w'.ownsRow base 2 1 (.slice (some ⟨g, 0, none⟩) n cd) n ((sortL (K) d n).map vi) ∧ w.grownBy w' (some g) := by
  have hdl : d.length = n := by have := ho.1; rw [List.length_map] at this; omega
  have HO := hd ho
  have HIN := hd hin
  have HDL := hd hdl
  have LS := hd hc
  clear ho hin hdl hc
  go_enter Try.func48, Try.ntmps48
  go_upto_region 1 with fail
  go_loopw [8] (fun iv wr => ∃ i : Nat, 1 ≤ i ∧ i ≤ n ∧ iv = .int .i64 i ∧ Hid (wr.ownsRow base 2 1 (.slice (some ⟨g, 0, none⟩) n cd) n ((sortL (K) d i).map vi)) ∧ Hid (w.grownBy wr (some g))) (fun iv _ => n - (intOf iv).toNat)
  case atStart => exact ⟨1, Nat.le_refl _, n1, rfl, HO, hd (World.grownBy.refl _ _)⟩
  case round =>
    obtain ⟨i, i1, hi, rfl, HOi, HG⟩ := hrel
    by_cases hlt : i < n
    · have i2 : (i : Int) < (n : Int) := Int.ofNat_lt.2 hlt
      go_wp2
      go_loopw [9] (fun jv wr => ∃ (j : Nat) (d' : List Int), j ≤ i ∧ jv = .int .i64 j ∧ Hid (sinkL (K) j d' = sortL (K) d (i + 1)) ∧ Hid (inL n d') ∧ Hid (d'.length = n) ∧ Hid (wr.ownsRow base 2 1 (.slice (some ⟨g, 0, none⟩) n cd) n (d'.map vi)) ∧ Hid (w.grownBy wr (some g))) (fun jv _ => (intOf jv).toNat)
      case atStart => exact ⟨i, sortL (K) d i, Nat.le_refl _, rfl, hd rfl, hd (inL_sort _ HIN.out i (by have := HDL.out; omega)), hd (by rw [sortL_len]; exact HDL.out), HOi, HG⟩
      case round =>
        clear HOi HG
        obtain ⟨j, d', hj, rfl, HS, HI, HL, HO', HG⟩ := hrel
        rcases Nat.eq_zero_or_pos j with j0 | j0
        · subst j0
          have E := hd (show d' = sortL (K) d (i + 1) from HS.out)
          go_wp2
          go_quiet (fail)
          go_wp2
          go_roundw
          case rel => exact ⟨i + 1, by omega, by omega, by go_num, hd (by rw [← E.out]; exact HO'.out), hd (HG.out.trans (below_all (below_drewN (Below.refl _ _) _) _))⟩
          case measure => simp [intOf]; omega
        · obtain ⟨k, hk⟩ : ∃ k, j = k + 1 := ⟨j - 1, by omega⟩
          have zi : (j : Int) - 1 = (k : Int) := by omega
          have jp : (0 : Int) < (j : Int) := by omega
          have jn : j < n := by omega
          have kn : k < n := by omega
          have jn2 : (j : Int) < (n : Int) := Int.ofNat_lt.2 jn
          have kn2 : (k : Int) < (n : Int) := Int.ofNat_lt.2 kn
          have hwj : IntKind.i64.wrap ((j : Int) - 1) = (k : Int) := by rw [zi]; exact IntWalk.i64_in _ (by omega)
          have bx := HI.out j (by rw [HL.out]; exact jn)
          have by' := HI.out k (by rw [HL.out]; exact kn)
          obtain ⟨xn, hx⟩ : ∃ xn : Nat, d'.getD j 0 = (xn : Int) := ⟨(d'.getD j 0).toNat, by omega⟩
          obtain ⟨yn, hy⟩ : ∃ yn : Nat, d'.getD k 0 = (yn : Int) := ⟨(d'.getD k 0).toNat, by omega⟩
          have hxn : xn < n := by omega
          have hyn : yn < n := by omega
          have cx : wr.cell? ⟨g, j, none⟩ = some (.int .i64 (xn : Int)) := by
            rw [HO'.out.cellAt j (by omega), List.getElem?_map, List.getElem?_eq_getElem (by rw [HL.out]; exact jn), Option.map_some]
            rw [List.getD_eq_getElem?_getD, List.getElem?_eq_getElem (by rw [HL.out]; exact jn)] at hx
            simp only [Option.getD_some] at hx
            rw [hx]; rfl
          have cy : wr.cell? ⟨g, k, none⟩ = some (.int .i64 (yn : Int)) := by
            rw [HO'.out.cellAt k (by omega), List.getElem?_map, List.getElem?_eq_getElem (by rw [HL.out]; exact kn), Option.map_some]
            rw [List.getD_eq_getElem?_getD, List.getElem?_eq_getElem (by rw [HL.out]; exact kn)] at hy
            simp only [Option.getD_some] at hy
            rw [hy]; rfl
          have fz : ∀ m, wr.frozen? ⟨g, m, none⟩ = false := by
            rcases HO'.out.2 with ⟨h5, _⟩ | ⟨g', cap', cur, h5, _, h6, _⟩
            · cases h5
            · cases h5
              exact fun m => frozen_of_row wr g m cur _ h6
          have fx := fz j
          have fy := fz k
          have LSx := LS.out wr HG.out xn yn hxn hyn
          have hkx : K (d'.getD j 0) = K (xn : Int) := by rw [hx]
          have hky : K (d'.getD k 0) = K (yn : Int) := by rw [hy]
          by_cases hc : K (xn : Int) < K (yn : Int)
          · have E := hd (show sinkL (K) k (swapL d' k) = sortL (K) d (i + 1) by
              rw [← HS.out, hk, sinkL, if_pos (by rw [← hk, hkx, hky]; exact hc)])
            have ESW := hd (show (d'.set j (yn : Int)).set k (xn : Int) = swapL d' k by rw [swapL, ← hk, hx, hy])
            have HI2 := hd (inL_swap HI.out (show k + 1 < d'.length by rw [HL.out]; omega))
            have HL2 := hd (show (swapL d' k).length = n by rw [swapL_len]; exact HL.out)
            rw [cmp_lt hc] at LSx
            have hjk : ¬ (j : Int) = (k : Int) := by omega
            have hjk2 : ¬ j = k := by omega
            have HKJ := hd hk
            clear hc hx hy hxn hyn bx by' hkx hky HS HI HL fz hk
            go_wp2
            go_quiet ((go_at_call 44; exact (LSx _).mono fun _ _ h => by obtain ⟨h1, m, h2⟩ := h; exact ⟨h1, _, by rw [h2, World.drewN_drewN]⟩))
            go_upto_region 6 with fail
            obtain ⟨W, hW⟩ : ∃ W, W = wr.drewN nq := ⟨_, rfl⟩
            have HOW := hd (show W.ownsRow base 2 1 (.slice (some ⟨g, 0, none⟩) n cd) n (d'.map vi) by rw [hW]; exact HO'.out)
            have HGW := hd (show w.grownBy W (some g) by rw [hW]; exact HG.out.trans (below_all (below_drewN (Below.refl _ _) _) _))
            have cx' : W.cell? ⟨g, j, none⟩ = some (.int .i64 (xn : Int)) := by rw [hW]; exact cx
            have cy' : W.cell? ⟨g, k, none⟩ = some (.int .i64 (yn : Int)) := by rw [hW]; exact cy
            have fx' : W.frozen? ⟨g, j, none⟩ = false := by rw [hW]; exact fx
            have fy' : W.frozen? ⟨g, k, none⟩ = false := by rw [hW]; exact fy
            rw [← hW]
            clear hW cx cy fx fy
            go_region
            have q1' := HOW.out.stored j (.int .i64 (yn : Int))
            have q2' := q1'.1.stored k (.int .i64 (xn : Int))
            have erow : ((d'.map vi).set j (.int .i64 (yn : Int))).set k (.int .i64 (xn : Int)) = (swapL d' k).map vi := by
              rw [← ESW.out, List.map_set, List.map_set]; rfl
            rw [erow] at q2'
            have hg9 : w.grownBy ((W.setCell ⟨g, j, none⟩ (.int .i64 (yn : Int))).setCell ⟨g, k, none⟩ (.int .i64 (xn : Int))).drew (some g) := (HGW.out.trans (q1'.2.trans q2'.2)).trans (below_all ((Below.refl _ _).drew) _)
            have ho9 : ((W.setCell ⟨g, j, none⟩ (.int .i64 (yn : Int))).setCell ⟨g, k, none⟩ (.int .i64 (xn : Int))).drew.ownsRow base 2 1 (.slice (some ⟨g, 0, none⟩) n cd) n ((swapL d' k).map vi) := q2'.1.drew
            obtain ⟨w9, hw9⟩ : ∃ w9, w9 = ((W.setCell ⟨g, j, none⟩ (.int .i64 (yn : Int))).setCell ⟨g, k, none⟩ (.int .i64 (xn : Int))).drew := ⟨_, rfl⟩
            rw [← hw9] at hg9 ho9 ⊢
            have HO9 := hd ho9
            have HG9 := hd hg9
            clear hw9 q1' q2' erow cx' cy' fx' fy' hg9 ho9 LSx
            go_wp2
            go_roundw
            case rel => exact ⟨k, swapL d' k, by have := HKJ.out; omega, by first | rfl | go_num, E, HI2, HL2, HO9, HG9⟩
            case measure => have := HKJ.out; simp [intOf]; omega
          · have E := hd (show d' = sortL (K) d (i + 1) by
              rw [← HS.out, hk, sinkL, if_neg (by rw [← hk, hkx, hky]; exact hc)])
            have hz := cmp_ge hc
            clear hc hx hy hxn hyn bx by' hkx hky HS HI HL fz fx fy hk
            generalize cmpI (K (xn : Int)) (K (yn : Int)) = z at *
            go_wp2
            go_quiet ((go_at_call 44; exact (LSx _).mono fun _ _ h => by obtain ⟨h1, m, h2⟩ := h; exact ⟨h1, _, by rw [h2, World.drewN_drewN]⟩))
            go_wp2
            go_roundw
            case rel => exact ⟨i + 1, by omega, by omega, by go_num, hd (by rw [← E.out]; exact HO'.out), hd (HG.out.trans (below_all (below_drewN (Below.refl _ _) _) _))⟩
            case measure => simp [intOf]; omega
    · obtain rfl : i = n := by omega
      go_wp2
      refine bodyPost_end (results_none rfl _ _ _) rfl ?_
      exact ⟨⟨_, rfl⟩, HOi.out, HG.out⟩
set_option maxHeartbeats 2000000 in
theorem stableS_any (K : Int → Int) (n bK : Nat) (n1 : 1 ≤ n) (n19 : n ≤ 19) (w : World) (g cd base : Nat) (d : List Int) (ho : w.ownsRow base 2 1 (.slice (some ⟨g, 0, none⟩) n cd) n (d.map vi)) (hin : inL n d) (hc : CmpS K n g bK w) :
    Calls Try.prog 38 #[.slice (some ⟨g, 0, none⟩) n cd, .func (.func 44) #[] #[.pointer (some ⟨bK, 0, none⟩)]] w (SortB base g n cd (sortL (K) d n) w) := by
  have I := hd (insertS_any K n bK n1 (by omega) w g cd base d ho hin hc)
  have S : Hid (Calls Try.prog 45 #[.slice (some ⟨g, 0, none⟩) n cd, .int .i64 n, .func (.func 44) #[] #[.pointer (some ⟨bK, 0, none⟩)]] w (SortB base g n cd (sortL (K) d n) w)) := hd (by
    have n20 : ¬ (20 : Int) ≤ (n : Int) := by omega
    have n20' : ¬ (20 : Int) < (n : Int) := by omega
    clear ho hin hc
    go_enter Try.func45, Try.ntmps45
    go_upto_region 2 with fail
    go_loopw [7, 8] (fun av bv wr => av = .int .i64 0 ∧ bv = .int .i64 20 ∧ wr = w) (fun _ _ _ => 0)
    case atStart => exact ⟨rfl, rfl, rfl⟩
    case round =>
      obtain ⟨rfl, rfl, hw⟩ := hrel
      subst hw
      go_wp2_with fail
      go_at_call 48
      refine I.out.mono ?_
      rintro e w2 ⟨⟨v, rfl⟩, h2, h3⟩
      have H2 := hd h2
      have H3 := hd h3
      clear h2 h3 I
      go_wp2
      go_loopw [6] (fun bv wr => bv = .int .i64 20 ∧ wr = w2) (fun _ _ => 0)
      case atStart => exact ⟨rfl, rfl⟩
      case round =>
        obtain ⟨rfl, hw2⟩ := hrel
        subst hw2
        go_wp2
        refine bodyPost_end (results_none rfl _ _ _) rfl ?_
        exact ⟨⟨_, rfl⟩, H2.out, H3.out⟩)
  clear I ho hin hc
  go_enter Try.func38, Try.ntmps38
  go_wp2_with fail
  go_at_call 45
  refine S.out.mono ?_
  rintro e w2 ⟨⟨v, rfl⟩, h2, h3⟩
  have H2 := hd h2
  have H3 := hd h3
  clear h2 h3 S
  go_wp2
  refine bodyPost_end (results_none rfl _ _ _) rfl ?_
  exact ⟨⟨_, rfl⟩, H2.out, H3.out⟩
end Go.Proofs.Ytjddlgmdbkaieaa
