/- The reference's draw of moves: a contract. -/
import Derived.Test.YtjcmgjjnkbhamaaProg
import Derived.Test.YtjcmgjjnkbhamaaTripsD
import Derived.Test.YtjcmgjjnkbhamaaStoreOwn
import Derived.Test.YtjcmgjjnkbhamaaCrews
namespace Go.Proofs.Ytjcmgjjnkbhamaa
open Go.RowKit Plain
set_option linter.unusedVariables false
set_option linter.unusedSimpArgs false
attribute [local go_sem ↓] Go.wp_at_zero Go.wp_at_succ
/-- moves between three towns -/
def MvOk (ms : List Int) : Prop := ms.length = 64 ∧ (∀ j, j < 64 → 0 ≤ ms.getD j 0 ∧ ms.getD j 0 ≤ 8) ∧ ∀ i, i < 8 → ms.getD (i * 9) 0 = 0
theorem mv_zero : MvOk (List.replicate 64 0) := by
  have e : ∀ j, (List.replicate 64 (0 : Int)).getD j 0 = 0 := fun j => by
    rw [List.getD_eq_getElem?_getD, List.getElem?_replicate]; split <;> rfl
  exact ⟨by simp, fun j _ => by rw [e]; omega, fun i _ => e _⟩
theorem mv_set {ms : List Int} (h : MvOk ms) {i k : Nat} (hi : i < 3) (hk : k < 3) (hne : i ≠ k) {x : Int} (h0 : 0 ≤ x) (h1 : x ≤ 8) : MvOk (ms.set (i * 8 + k) x) := by
  have hg : ∀ j, (ms.set (i * 8 + k) x).getD j 0 = if i * 8 + k = j then x else ms.getD j 0 := fun j => by
    rw [List.getD_eq_getElem?_getD, List.getElem?_set]
    by_cases e : i * 8 + k = j
    · rw [if_pos e, if_pos e, if_pos (by have := h.1; omega)]; rfl
    · rw [if_neg e, if_neg e, List.getD_eq_getElem?_getD]
  refine ⟨by rw [List.length_set]; exact h.1, fun j hj => ?_, fun j hj => ?_⟩
  · rw [hg]; split
    · exact ⟨h0, h1⟩
    · exact h.2.1 j hj
  · rw [hg, if_neg (by omega)]
    exact h.2.2 j hj
theorem mv_moves {ms : List Int} (h : MvOk ms) : movesB ms = true := movesB_iff.2 ⟨h.1, fun i hi => inR_iff.2 ⟨by have := h.2.1 i hi; omega, by have := h.2.1 i hi; omega⟩, h.2.2⟩
def MovesB8 (w : World) (r : Ending) (w' : World) : Prop := ∃ (ms : List Int) (u : Value), r = .returned u ∧ MvOk ms ∧ w'.ownsRow w.heap.size 2 1 u 64 (ms.map vi) ∧ Below w.heap.size w w'
set_option maxHeartbeats 4000000 in
set_option maxRecDepth 100000 in
theorem R8Moves_any (cv : Value) (xs : List Nat) (hx : ∀ x ∈ xs, x < 256) (w : World) (hs : Sl w 1 cv xs.length (bys xs)) :
    Calls Try.prog 7 #[cv] w (MovesB8 w) := by
  have HSL := hd hs
  obtain ⟨A, cap, rfl, hcap, hr⟩ := hs
  have HF := hd (l00From_any A xs.length cap w)
  have hne : NeSl (.slice A xs.length cap) w.heap.size := by
    intro A' n' c' e h0 e2
    cases e
    obtain ⟨b, off, rfl, hc⟩ := hr.2.2 h0
    have hc0 := hc 0 (.int .u8 (xs[0] : Int)) (by simp [bys, List.getElem?_eq_getElem h0])
    have hlt : b < w.heap.size := block_lt_of_cell hc0
    simp only [Option.map_some, Option.some.injEq] at e2
    omega
  clear hr
  go_enter Try.func7, Try.ntmps7
  go_wp2_with fail
  go_at_call 14
  refine HF.out.mono ?_
  rintro e w1 ⟨rfl, hb, hB⟩
  have hgw := sbox_lt hb
  have PK := hd (fun (w' : World) (A' : Nat) (sd : Int) (n : Nat) (hg : w1.grownBy w' (some w.heap.size)) (hA : A' ≤ 1000) (h0 : 0 ≤ sd) (h1 : sd < 18446744073709551616) (hb : SrcBox w' w.heap.size (.slice A xs.length cap) A' sd) (n1 : 1 ≤ n) (n2 : n ≤ 200) =>
    pick_any w.heap.size (.slice A xs.length cap) xs hx A' (by omega) sd h0 h1 w' (sl_grown (HSL.out.below hB) hne hg) hne hb n n1 n2)
  have HB := hd hB
  have HS := hd hb
  have HG := hd hgw
  clear hb hB hgw HF hne
  go_wp2_with (at_make; go_must (refine wpList_make_int _ rfl _ rfl _ _ 64 rfl rfl (by omega) ?_); intro w2 ho2 hb2; have HO2 := hd ho2; have HB2 := hd hb2; clear ho2 hb2)
  go_loopw [5] (fun iv wr => ∃ (i A' : Nat) (sd : Int) (ms : List Int), i ≤ 3 ∧ iv = .int .i64 i ∧ A' ≤ 3 * i ∧ 0 ≤ sd ∧ sd < 18446744073709551616 ∧ Hid (MvOk ms) ∧ Hid (SrcBox wr w.heap.size (.slice A xs.length cap) A' sd) ∧ Hid (wr.ownsRow w1.heap.size 2 1 (.slice (some ⟨w1.heap.size, 0, none⟩) 64 64) 64 (ms.map vi)) ∧ Hid (w1.grownBy wr (some w.heap.size))) (fun iv _ => 3 - (intOf iv).toNat)
  case atStart => exact ⟨0, 0, 0, List.replicate 64 0, by omega, rfl, by omega, by omega, by omega, hd mv_zero, hd (sbox_below HS.out HB2.out), hd (by rw [List.map_replicate]; exact HO2.out), hd (below_all HB2.out _)⟩
  case round =>
    clear HS HO2 HB2
    obtain ⟨i, A', sd, ms, hi, rfl, hA, h0, h1, HM, HS, HO, HGr⟩ := hrel
    by_cases hlt : i < 3
    · have i2 : (i : Int) < 3 := by omega
      go_wp2
      go_loopw [6] (fun kv wr => ∃ (k A' : Nat) (sd : Int) (ms : List Int), k ≤ 3 ∧ kv = .int .i64 k ∧ A' ≤ 3 * i + k ∧ 0 ≤ sd ∧ sd < 18446744073709551616 ∧ Hid (MvOk ms) ∧ Hid (SrcBox wr w.heap.size (.slice A xs.length cap) A' sd) ∧ Hid (wr.ownsRow w1.heap.size 2 1 (.slice (some ⟨w1.heap.size, 0, none⟩) 64 64) 64 (ms.map vi)) ∧ Hid (w1.grownBy wr (some w.heap.size))) (fun kv _ => 3 - (intOf kv).toNat)
      case atStart => exact ⟨0, A', sd, ms, by omega, rfl, by omega, h0, h1, HM, HS, HO, HGr⟩
      case round =>
        clear HM HS HO HGr h0 h1 hA
        obtain ⟨k, A2, sd2, ms2, hk, rfl, hA, h0, h1, HM, HS, HO, HGr⟩ := hrel
        by_cases hlt2 : k < 3
        · have k2 : (k : Int) < 3 := by omega
          go_wp2_with fail
          go_at_call 16
          refine (PK.out wr A2 sd2 9 HGr.out (by omega) h0 h1 HS.out (by omega) (by omega)).mono ?_
          rintro e w3 ⟨q, A3, sd3, hq, rfl, b1, b2, b3, b4, b5⟩
          have HS3 := hd b1
          have HG3 := hd (HGr.out.trans b5)
          have HO3 := hd (HO.out.kept b5 (.inr (fun e => by have := (World.ownsRow.lt HO.out _ e).1; have := HG.out; omega)))
          clear b1 b5 HS HO HGr
          by_cases he : i = k
          · have he1 : (i : Int) = (k : Int) := by omega
            have he2 : ((i : Int) == (k : Int)) = true := by simp [he1]
            have HE := hd he
            clear he1 he
            go_wp2
            go_roundw
            case rel => exact ⟨k + 1, A3, sd3, ms2, by omega, by go_num, by omega, b3, b4, HM, HS3, HO3, HG3⟩
            case measure => simp [intOf]; omega
          · have he1 : ¬ (i : Int) = (k : Int) := by omega
            have he2 : ((i : Int) == (k : Int)) = false := by simp [he1]
            obtain ⟨ii, hii⟩ : ∃ ii : Nat, ii = i * 8 + k := ⟨_, rfl⟩
            have w1' : IntKind.i64.wrap ((i : Int) * 8) = (i : Int) * 8 := IntWalk.i64_in _ (by omega)
            have w2' : IntKind.i64.wrap ((i : Int) * 8 + (k : Int)) = (ii : Int) := by rw [IntWalk.i64_in _ (by omega), hii]; push_cast; rfl
            have ii2 : (ii : Int) < 64 := by omega
            have HM3 := hd (mv_set HM.out hlt hlt2 he (x := (q : Int)) (by omega) (by omega))
            have hii6 : ii < 64 := by omega
            rw [← hii] at HM3
            clear hii
            go_wp2_with ((with_reducible refine wpList_store_own _ w1.heap.size 2 1 64 64 w1.heap.size _ HO3.out size_int ii (.int .i64 (q : Int)) ?_ ?_ ?_ ?_ ?_); exact rfl; exact rfl; exact rfl; omega; intro w5 ho5 hg5)
            go_roundw
            case rel => exact ⟨k + 1, A3, sd3, ms2.set ii (q : Int), by omega, by go_num, by omega, b3, b4, HM3, hd (sbox_kept (show SBox w3 w.heap.size _ _ from HS3.out) hg5 (by have := HG.out; simp; omega)), hd (by rw [List.map_set]; exact ho5), hd (grown_over HG3.out hg5 (Nat.le_refl _))⟩
            case measure => simp [intOf]; omega
        · obtain rfl : k = 3 := by omega
          go_wp2
          go_roundw
          case rel => exact ⟨i + 1, A2, sd2, ms2, by omega, by go_num, by omega, h0, h1, HM, HS, HO, HGr⟩
          case measure => simp [intOf]; omega
    · obtain rfl : i = 3 := by omega
      go_wp2
      go_ret
      exact ⟨ms, _, rfl, HM.out, own_mono HO.out HB.out.size, below_row HGr.out HB.out (fun k e => by cases e; exact Nat.le_refl _)⟩
end Go.Proofs.Ytjcmgjjnkbhamaa
