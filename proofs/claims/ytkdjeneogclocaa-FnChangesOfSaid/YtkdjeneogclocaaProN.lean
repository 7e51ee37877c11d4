/- A list turned round; the first task that tells the end: contracts. -/
import Derived.Test.YtkdjeneogclocaaProE
import Derived.Test.YtkdjeneogclocaaProW
import Derived.Test.YtkdjeneogclocaaSymT
import Derived.Test.YtkdjeneogclocaaCmpI
namespace Go.Proofs.Ytkdjeneogclocaa
open Go.RowKit Plain
set_option linter.unusedVariables false
set_option linter.unusedSimpArgs false
attribute [local go_sem ↓] Go.wp_at_zero Go.wp_at_succ
theorem rev_zero (d : List Int) (n : Nat) (hn : d.length = n) : d = mkL n (revF d n 0) := by
  conv => lhs; rw [mkL_of d, hn]
  rw [mkL, mkL]
  refine List.map_congr_left fun k hk => ?_
  rw [revF, if_neg (by omega)]
theorem rev_all (d : List Int) (n k : Nat) (hn : d.length = n) (hk : n ≤ 2 * k + 1) : mkL n (revF d n k) = d.reverse := by
  refine List.ext_getElem (by simp [mkL_len, hn]) fun m h1 h2 => ?_
  rw [mkL_len] at h1
  have e : (mkL n (revF d n k))[m]? = some (revF d n k m) := mkL_at _ h1
  rw [List.getElem?_eq_getElem (by rw [mkL_len]; exact h1)] at e
  rw [Option.some.inj e, List.getElem_reverse, revF]
  have g : d.getD (n - 1 - m) 0 = d[d.length - 1 - m]'(by omega) := by
    rw [List.getD_eq_getElem?_getD, show n - 1 - m = d.length - 1 - m by omega, List.getElem?_eq_getElem (by omega)]; rfl
  by_cases c : m < k ∨ n - 1 - m < k
  · rw [if_pos c, g]
  · rw [if_neg c, ← g, show n - 1 - m = m by omega]
theorem rev_step (d : List Int) (n k : Nat) (hk : 2 * k + 1 < n) : ((mkL n (revF d n k)).set k (d.getD (n - 1 - k) 0)).set (n - 1 - k) (d.getD k 0) = mkL n (revF d n (k + 1)) := by
  rw [mkL_set _ (by omega), mkL_set _ (by omega)]
  rw [mkL, mkL]
  refine List.map_congr_left fun m hm => ?_
  rw [List.mem_range] at hm
  simp only [revF]
  by_cases e : m = n - 1 - k
  · rw [if_pos e, if_pos (by omega), e, show n - 1 - (n - 1 - k) = k by omega]
  · rw [if_neg e]
    by_cases e2 : m = k
    · rw [if_pos e2, if_pos (by omega), e2]
    · rw [if_neg e2]
      by_cases c : m < k ∨ n - 1 - m < k
      · rw [if_pos c, if_pos (by omega)]
      · rw [if_neg c, if_neg (by omega)]
def RevB (base g n cd : Nat) (d : List Int) (w : World) (r : Ending) (w' : World) : Prop := (∃ v, r = .returned v) ∧ w'.ownsRow base 2 1 (.slice (some ⟨g, 0, none⟩) n cd) n (d.reverse.map vi) ∧ w.grownBy w' (some g)
set_option maxHeartbeats 4000000 in
theorem reverse_any (base g n cd : Nat) (d : List Int) (n9 : n ≤ 1000) (w : World) (ho : w.ownsRow base 2 1 (.slice (some ⟨g, 0, none⟩) n cd) n (d.map vi)) :
    Calls Try.prog 22 #[.slice (some ⟨g, 0, none⟩) n cd] w (RevB base g n cd d w) := by
  have hdl : d.length = n := by have := ho.1; rw [List.length_map] at this; omega
  have HO := hd (show w.ownsRow base 2 1 (.slice (some ⟨g, 0, none⟩) n cd) n ((mkL n (revF d n 0)).map vi) by rw [← rev_zero d n hdl]; exact ho)
  have HA := hd (fun k hk => rev_all d n k hdl hk)
  have HS := hd (fun k hk => rev_step d n k hk)
  have hwn : IntKind.i64.wrap ((n : Int) - 1) = (n : Int) - 1 := IntWalk.i64_in _ (by omega)
  clear ho hdl
  go_enter Try.func22, Try.ntmps22
  go_wp2
  go_loopw [2, 3] (fun iv jv wr => ∃ k : Nat, 2 * k ≤ n + 1 ∧ iv = .int .i64 k ∧ jv = .int .i64 ((n : Int) - 1 - (k : Int)) ∧ Hid (wr.ownsRow base 2 1 (.slice (some ⟨g, 0, none⟩) n cd) n ((mkL n (revF d n k)).map vi)) ∧ Hid (w.grownBy wr (some g))) (fun iv _ _ => n - (intOf iv).toNat)
  case atStart => exact ⟨0, by omega, rfl, by first | rfl | simp, HO, hd (World.grownBy.refl _ _)⟩
  case round =>
    clear HO hwn
    obtain ⟨k, hk, rfl, rfl, HO, HG⟩ := hrel
    by_cases hlt : (k : Int) < (n : Int) - 1 - (k : Int)
    · have hk2 : 2 * k + 1 < n := by omega
      obtain ⟨j, hj⟩ : ∃ j, j = n - 1 - k := ⟨_, rfl⟩
      have zj : (n : Int) - 1 - (k : Int) = (j : Int) := by omega
      rw [zj] at hlt ⊢
      have st := HS.out k hk2
      rw [← hj] at st
      have hkn : k < n := by omega
      have hjn : j < n := by omega
      have cell : ∀ m, m < n → wr.cell? ⟨g, m, none⟩ = some (.int .i64 (revF d n k m)) := fun m hm => by
        rw [HO.out.cellAt m (by omega), List.getElem?_map, mkL_at _ hm]; rfl
      have ck := cell k hkn
      have cj := cell j hjn
      rw [revF, if_neg (by omega)] at ck cj
      have fz : ∀ m, wr.frozen? ⟨g, m, none⟩ = false := by
        rcases HO.out.2 with ⟨h5, _⟩ | ⟨g', cap', cur, h5, _, h6, _⟩
        · cases h5
        · cases h5
          exact fun m => frozen_of_row wr g m cur _ h6
      have fk := fz k
      have fj := fz j
      have HJ := hd hj
      have ST := hd st
      have hk3 : (k : Int) < (n : Int) := Int.ofNat_lt.2 hkn
      have hj3 : (j : Int) < (n : Int) := Int.ofNat_lt.2 hjn
      have hkj : ¬ (k : Int) = (j : Int) := by omega
      have hkj2 : ¬ k = j := by omega
      have hwj : IntKind.i64.wrap ((j : Int) - 1) = (j : Int) - 1 := IntWalk.i64_in _ (by omega)
      clear cell fz st hj zj
      generalize d.getD k 0 = x at *
      generalize d.getD j 0 = y at *
      go_upto_region 3 with fail
      go_region
      have q1' := HO.out.stored k (.int .i64 y)
      have q2' := q1'.1.stored j (.int .i64 x)
      have erow : (((mkL n (revF d n k)).map vi).set k (.int .i64 y)).set j (.int .i64 x) = (mkL n (revF d n (k + 1))).map vi := by
        rw [← ST.out, List.map_set, List.map_set]; rfl
      rw [erow] at q2'
      have hg9 : w.grownBy ((wr.setCell ⟨g, k, none⟩ (.int .i64 y)).setCell ⟨g, j, none⟩ (.int .i64 x)).drew (some g) := (HG.out.trans (q1'.2.trans q2'.2)).trans (below_all ((Below.refl _ _).drew) _)
      have ho9 : ((wr.setCell ⟨g, k, none⟩ (.int .i64 y)).setCell ⟨g, j, none⟩ (.int .i64 x)).drew.ownsRow base 2 1 (.slice (some ⟨g, 0, none⟩) n cd) n ((mkL n (revF d n (k + 1))).map vi) := q2'.1.drew
      obtain ⟨w9, hw9⟩ : ∃ w9, w9 = ((wr.setCell ⟨g, k, none⟩ (.int .i64 y)).setCell ⟨g, j, none⟩ (.int .i64 x)).drew := ⟨_, rfl⟩
      rw [← hw9] at hg9 ho9 ⊢
      have HO9 := hd ho9
      have HG9 := hd hg9
      clear hw9 q1' q2' erow ck cj fk fj hg9 ho9
      go_wp2
      go_roundw
      case rel => exact ⟨k + 1, by omega, by go_num, by first | rfl | exact congrArg (Value.int IntKind.i64) (by have := HJ.out; omega), HO9, HG9⟩
      case measure => simp [intOf]; omega
    · have E := hd (HA.out k (by omega))
      go_wp2
      refine bodyPost_end (results_none rfl _ _ _) rfl ?_
      exact ⟨⟨_, rfl⟩, by rw [← E.out]; exact HO.out, HG.out⟩
end Go.Proofs.Ytkdjeneogclocaa
