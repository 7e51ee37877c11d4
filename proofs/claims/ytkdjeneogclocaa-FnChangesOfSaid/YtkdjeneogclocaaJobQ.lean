/- The reference's draws of jobs and of orders: contracts. -/
import Derived.Test.YtkdjeneogclocaaJobO
import Derived.Test.YtkdjeneogclocaaR8I
import Derived.Test.YtkdjeneogclocaaCmpI
import Derived.Test.YtkdjeneogclocaaJobS
namespace Go.Proofs.Ytkdjeneogclocaa
open Go.RowKit Plain
set_option linter.unusedVariables false
set_option linter.unusedSimpArgs false
attribute [local go_sem ↓] Go.wp_at_zero Go.wp_at_succ
theorem q4s_set_b : ∀ (l : List Q4) (k : Nat) (q : Q4) (y : Int), l[k]? = some q → (q4s l).set (k * 4 + 1) (.int .i64 y) = q4s (l.set k ⟨q.a, y, q.c, q.d⟩)
  | [], _, _, _, h => by simp at h
  | x :: l, 0, q, y, h => by
    obtain rfl : x = q := by simpa using h
    rfl
  | x :: l, k + 1, q, y, h => by
    have e := q4s_set_b l k q y (by simpa using h)
    have h1 : q4s (x :: l) = .int .i64 x.a :: .int .i64 x.b :: .int .i64 x.c :: .int .i64 x.d :: q4s l := rfl
    rw [h1, show (k + 1) * 4 + 1 = (k * 4 + 1) + 1 + 1 + 1 + 1 by omega, List.set_cons_succ, List.set_cons_succ, List.set_cons_succ, List.set_cons_succ, e]
    rfl
def JobsB8 (fr : Bool) (N : Nat) (w : World) (r : Ending) (w' : World) : Prop :=
  ∃ (l : List Q4) (u : Value), r = .returned u ∧ l.length = N ∧ (∀ q ∈ l, jobD q) ∧ (fr = true → freeL l N) ∧ w'.ownsRow w.heap.size 37 4 u N (q4s l) ∧ Below w.heap.size w w'
set_option maxHeartbeats 2000000 in
theorem R8Jobs_any (cv : Value) (xs : List Nat) (hx : ∀ x ∈ xs, x < 256) (w : World) (hs : Sl w 1 cv xs.length (bys xs)) (N : Nat) (e1 : 1 ≤ N) (e2 : N ≤ 9) (fr : Bool) :
    Calls Try.prog 11 #[cv, .int .i64 N, .bool fr] w (JobsB8 fr N w) := by
  have HSL := hd hs
  obtain ⟨A, cap, rfl, hcap, hr⟩ := hs
  have HF := hd (l00From_any A xs.length cap w)
  have hne : NeSl (.slice A xs.length cap) w.heap.size := by
    intro A' n' c' e h0 e2
    cases e
    obtain ⟨b, off, rfl, hc⟩ := hr.2.2 h0
    have hc0 := hc 0 (.int .u8 (xs[0] : Int)) (by simp [bys, List.getElem?_eq_getElem h0])
    have hlt : b < w.heap.size := block_lt_of_cell hc0
    simp only [Option.map_some, Option.some.injEq] at e2
    omega
  clear hr
  go_enter Try.func11, Try.ntmps11
  go_wp2_with fail
  go_at_call 13
  refine HF.out.mono ?_
  rintro e w1 ⟨rfl, hb, hB⟩
  have HR := hd (drawOk_any w.heap.size (.slice A xs.length cap) xs hx w1 (HSL.out.below hB) hne hb (sbox_ltJ hb) N e2)
  have HB := hd hB
  clear hb hB
  go_wp2_with fail
  go_at_call 19
  refine HR.out.mono ?_
  rintro e w2 ⟨l, u, rfl, h1, h2, h3, h4⟩
  rw [h1] at h3
  obtain ⟨g, cg, rfl, hg0, hg1⟩ := own_form h3 e1
  have H3 := hd (own_mono h3 HB.out.size)
  have H4 := hd (below_row h4 HB.out (fun k e => by cases e; exact Nat.le_refl _))
  have H2 := hd h2
  have HG0 := hd (Nat.le_trans HB.out.size hg0)
  clear h3 h4 h2 hg0 hg1 HR HB HF HSL hx hne
  cases fr with
  | false =>
    by_cases hN : (0 : Int) < (N : Int)
    · go_wp2
      go_loopw [9] (fun iv wr => iv = .int .i64 0 ∧ wr = w2) (fun _ _ => 0)
      case atStart => exact ⟨rfl, rfl⟩
      case round =>
        obtain ⟨rfl, hw⟩ := hrel
        subst hw
        go_wp2
        go_ret
        exact ⟨l, _, rfl, h1, H2.out, (fun h => by cases h), H3.out, H4.out⟩
    · omega
  | true =>
    go_wp2
    go_loopw [9] (fun iv wr => ∃ (k : Nat) (lz : List Q4), k ≤ N ∧ iv = .int .i64 k ∧ Hid (lz.length = N) ∧ Hid (∀ q ∈ lz, jobD q) ∧ Hid (freeL lz k) ∧ Hid (wr.ownsRow w.heap.size 37 4 (.slice (some ⟨g, 0, none⟩) N cg) N (q4s lz)) ∧ Hid (Below w.heap.size w wr)) (fun iv _ => N - (intOf iv).toNat)
    case atStart => exact ⟨0, l, by omega, rfl, hd h1, H2, hd (fun i hi => by omega), H3, H4⟩
    case round =>
      clear H2 H3 H4
      obtain ⟨k, lz, hk, rfl, HL, HD, HFR, HO, HB⟩ := hrel
      by_cases hlt : k < N
      · have k2 : (k : Int) < (N : Int) := Int.ofNat_lt.2 hlt
        have hkl : k < lz.length := by have := HL.out; omega
        have EQ := hd (q4s_set_b lz k lz[k] 0 (List.getElem?_eq_getElem hkl))
        have HD2 := hd (show ∀ q ∈ lz.set k ⟨lz[k].a, 0, lz[k].c, lz[k].d⟩, jobD q from fun q hq => by
          rcases List.mem_or_eq_of_mem_set hq with h | h
          · exact HD.out q h
          · have := HD.out lz[k] (List.getElem_mem hkl)
            rw [h]
            exact ⟨this.1, ⟨by simp, by simp⟩, this.2.2⟩)
        have HF2 := hd (show freeL (lz.set k ⟨lz[k].a, 0, lz[k].c, lz[k].d⟩) (k + 1) from fun i hi => by
          rw [jobAt, List.getD_eq_getElem?_getD, List.getElem?_set]
          by_cases e : k = i
          · subst e; rw [if_pos rfl, if_pos hkl]; rfl
          · rw [if_neg e, ← List.getD_eq_getElem?_getD]; exact HFR.out i (by omega))
        have HL2 := hd (show (lz.set k ⟨lz[k].a, 0, lz[k].c, lz[k].d⟩).length = N by rw [List.length_set]; exact HL.out)
        generalize hlz : lz.set k ⟨lz[k].a, 0, lz[k].c, lz[k].d⟩ = lz2 at *
        clear hlz HL HD HFR hkl
        have hj : k * 4 + 1 < N * 4 := by omega
        go_wp2_with ((with_reducible refine wpList_store_own _ w.heap.size 37 4 N cg g _ HO.out size_int ?_ ?_ ?_ ?_ ?_ ?_ ?_); rotate_left 2; exact rfl; exact rfl; exact rfl; omega; intro w6 ho7 hg7)
        have HO7 := hd (show w6.ownsRow w.heap.size 37 4 (.slice (some ⟨g, 0, none⟩) N cg) N (q4s lz2) by rw [← EQ.out]; exact ho7)
        have HB7 := hd (below_row hg7 HB.out (fun k e => by cases e; exact HG0.out))
        clear ho7 hg7
        go_roundw
        case rel => exact ⟨k + 1, lz2, by omega, by go_num, HL2, HD2, HF2, HO7, HB7⟩
        case measure => simp [intOf]; omega
      · obtain rfl : k = N := by omega
        go_wp2
        go_ret
        exact ⟨lz, _, rfl, HL.out, HD.out, (fun _ => HFR.out), HO.out, HB.out⟩
set_option maxHeartbeats 1000000 in
theorem count_any (n : Nat) (hn : n ≤ 1000) (w : World) : Calls Try.prog 15 #[.int .i64 n] w fun r w' => ∃ u, r = .returned u ∧ w'.ownsRow w.heap.size 2 1 u n ((upTo n).map vi) ∧ Below w.heap.size w w' := by
  go_enter Try.func15, Try.ntmps15
  go_upto_region 3 with fail
  go_loopw [3, 4] (fun out iv wr => ∃ k : Nat, k ≤ n ∧ iv = .int .i64 k ∧ Hid (wr.ownsRow w.heap.size 2 1 out k ((upTo k).map vi)) ∧ Hid (Below w.heap.size w wr)) (fun _ iv _ => n - (intOf iv).toNat)
  case atStart =>
    have hstart := World.ownsRow_made (base := w.heap.size) (size := 1) w #[] 0 (Nat.le_refl _) (by unfold maxLen; omega) rfl (e := 2)
    exact ⟨0, by omega, rfl, hd (by simpa [upTo] using hstart), hd ((Below.refl _ _).alloc (Nat.le_refl _) _)⟩
  case round =>
    obtain ⟨k, hk, rfl, HO, HB⟩ := hrel
    by_cases hlt : k < n
    · have k2 : (k : Int) < (n : Int) := Int.ofNat_lt.2 hlt
      go_wp2_with (at_builtin; go_must (refine wpList_app_int _ _ _ rfl _ _ rfl w.heap.size k _ _ rfl HO.out rfl _ rfl (by simp) (by omega) HB.out.size ?_); intro v' w1 ho1 hg1 hap; have HO1 := hd ho1; have HB1 := hd (below_row hg1 HB.out (own_row HO.out (Nat.le_refl _))); clear ho1 hg1 hap)
      go_roundw
      case rel =>
        refine ⟨k + 1, by omega, by go_num, hd ?_, HB1⟩
        rw [upTo_succ, List.map_append]
        exact HO1.out
      case measure => simp [intOf]; omega
    · obtain rfl : k = n := by omega
      go_wp2
      go_ret
      exact ⟨_, rfl, HO.out, HB.out⟩
theorem swap_at {d : List Int} {i k n : Nat} (hl : d.length = n) (hi : i < n) (hk : k < n) (m : Nat) : ((d.set i (d.getD k 0)).set k (d.getD i 0)).getD m 0 = d.getD (if m = k then i else if m = i then k else m) 0 := by
  rw [set_at _ _ _ _ (by simp; omega), set_at _ _ _ _ (by omega)]
  by_cases e : m = k
  · rw [if_pos e, if_pos e]
  · rw [if_neg e, if_neg e]
    by_cases e2 : m = i
    · rw [if_pos e2, if_pos e2]
    · rw [if_neg e2, if_neg e2]
theorem swap_ok {d : List Int} {i k n : Nat} (hl : d.length = n) (h1 : inL n d) (h2 : oneL d) (hi : i < n) (hk : k < n) : ((d.set i (d.getD k 0)).set k (d.getD i 0)).length = n ∧ inL n ((d.set i (d.getD k 0)).set k (d.getD i 0)) ∧ oneL ((d.set i (d.getD k 0)).set k (d.getD i 0)) := by
  have e : ((d.set i (d.getD k 0)).set k (d.getD i 0)).length = n := by simp [hl]
  refine ⟨e, fun m hm => ?_, fun a b ha hb hab => ?_⟩
  · rw [swap_at hl hi hk]
    refine h1 _ ?_
    rw [e] at hm
    split
    · omega
    · split <;> omega
  · rw [swap_at hl hi hk, swap_at hl hi hk] at hab
    rw [e] at ha hb
    have := h2 _ _ (by split; omega; split <;> omega) (by split; omega; split <;> omega) hab
    split at this <;> split at this <;> (try split at this) <;> (try split at this) <;> omega
/-- an order drawn -/
def OrderB8 (N : Nat) (w : World) (r : Ending) (w' : World) : Prop := ∃ (d : List Int) (u : Value), r = .returned u ∧ d.length = N ∧ inL N d ∧ oneL d ∧ w'.ownsRow w.heap.size 2 1 u N (d.map vi) ∧ Below w.heap.size w w'
set_option maxHeartbeats 4000000 in
theorem R8Order_any (cv : Value) (xs : List Nat) (hx : ∀ x ∈ xs, x < 256) (w : World) (hs : Sl w 1 cv xs.length (bys xs)) (N : Nat) (e1 : 1 ≤ N) (e2 : N ≤ 100) :
    Calls Try.prog 7 #[cv, .int .i64 N] w (OrderB8 N w) := by
  have HSL := hd hs
  obtain ⟨A, cap, rfl, hcap, hr⟩ := hs
  have HF := hd (l00From_any A xs.length cap w)
  have hne : NeSl (.slice A xs.length cap) w.heap.size := by
    intro A' n' c' e h0 e2
    cases e
    obtain ⟨b, off, rfl, hc⟩ := hr.2.2 h0
    have hc0 := hc 0 (.int .u8 (xs[0] : Int)) (by simp [bys, List.getElem?_eq_getElem h0])
    have hlt : b < w.heap.size := block_lt_of_cell hc0
    simp only [Option.map_some, Option.some.injEq] at e2
    omega
  clear hr
  obtain ⟨s, hsz⟩ : ∃ s, s = w.heap.size := ⟨_, rfl⟩
  have HGW := hd hsz
  rw [← hsz] at HF hne
  clear hsz
  have PK := hd (fun (w' : World) (A' : Nat) (sd : Int) (m : Nat) (m1 : 1 ≤ m) (m2 : m ≤ 200) (hg : Below w.heap.size w w') (hA : A' ≤ 1000) (h0 : 0 ≤ sd) (h1 : sd < 18446744073709551616) (hb : SrcBox w' s (.slice A xs.length cap) A' sd) =>
    pick_any s (.slice A xs.length cap) xs hx A' (by omega) sd h0 h1 w' (HSL.out.below hg) hne hb m m1 m2)
  clear hne hx HSL
  have hwN : IntKind.i64.wrap ((N : Int) - 1) = ((N - 1 : Nat) : Int) := by rw [IntWalk.i64_in _ (by omega)]; omega
  go_enter Try.func7, Try.ntmps7
  go_wp2_with fail
  go_at_call 13
  refine HF.out.mono ?_
  rintro e w1 ⟨rfl, hb, hB⟩
  have HSB := hd hb
  have HB1 := hd (show Below w.heap.size w w1 by rw [← HGW.out]; exact hB)
  have hsl : s < w1.heap.size := sbox_ltJ hb
  clear hb hB HF
  go_wp2_with fail
  go_at_call 15
  refine (count_any N (by omega) w1).mono ?_
  rintro e w2 ⟨u, rfl, ho, hb2⟩
  obtain ⟨g, cg, rfl, hg0, hg1⟩ := own_form ho e1
  have HO2 := hd ho
  have HS2 := hd (sbox_below HSB.out hb2)
  have HB2 := hd (below_tr hb2 HB1.out)
  have hsg : s ≠ g := by omega
  have HSG := hd (show w.heap.size ≤ g by have := HB1.out.size; omega)
  have HW1 := hd (show w.heap.size ≤ w1.heap.size from HB1.out.size)
  clear ho hb2 hg1 HSB HB1
  go_wp2
  go_loopw [7] (fun iv wr => ∃ (i A' : Nat) (sd : Int) (d : List Int), i ≤ N - 1 ∧ iv = .int .i64 i ∧ Hid (d.length = N ∧ inL N d ∧ oneL d) ∧ A' + i ≤ 200 ∧ 0 ≤ sd ∧ sd < 18446744073709551616 ∧ Hid (SrcBox wr s (.slice A xs.length cap) A' sd) ∧ Hid (wr.ownsRow w1.heap.size 2 1 (.slice (some ⟨g, 0, none⟩) N cg) N (d.map vi)) ∧ Hid (Below w.heap.size w wr)) (fun iv _ => (intOf iv).toNat)
  case atStart => exact ⟨N - 1, 0, 0, upTo N, by omega, rfl, hd ⟨upTo_len N, inL_upTo N, oneL_upTo N⟩, by omega, by omega, by omega, HS2, HO2, HB2⟩
  case round =>
    clear HS2 HO2 HB2 hwN
    obtain ⟨i, A', sd, d, hi, rfl, HD, hA, h0, h1, HS, HO, HB⟩ := hrel
    rcases Nat.eq_zero_or_pos i with i0 | i0
    · subst i0
      go_wp2
      go_ret
      exact ⟨d, _, rfl, HD.out.1, HD.out.2.1, HD.out.2.2, own_mono HO.out HW1.out, HB.out⟩
    · have i1 : (0 : Int) < (i : Int) := by omega
      have hin : i < N := by omega
      have hw1 : IntKind.i64.wrap ((i : Int) + 1) = ((i + 1 : Nat) : Int) := by rw [IntWalk.i64_in _ (by omega)]; push_cast; rfl
      have PK2 := hd (PK.out wr A' sd (i + 1) (by omega) (by omega) HB.out (by omega) h0 h1 HS.out)
      obtain ⟨i2, hi2⟩ : ∃ i2, i2 = i + 1 := ⟨_, rfl⟩
      rw [← hi2] at hw1 PK2
      have HI2 := hd hi2
      clear hi2
      go_wp2_with fail
      go_at_call 14
      refine PK2.out.mono ?_
      rintro e w3 ⟨q, A2, sd2, hq, rfl, b1, b2, b3, b4, b5⟩
      have hqi : q ≤ i := by have := HI2.out; omega
      have HS3 := hd b1
      have HLt := hd (World.ownsRow.lt HO.out)
      have HO3 := hd (HO.out.kept b5 (.inr (fun e => by have := (HLt.out s e).1; omega)))
      have HB3 := hd (below_row b5 HB.out (fun k e => by cases e; rw [HGW.out]; exact Nat.le_refl _))
      clear b1 b5 HS HO HB hw1 PK2 hq
      have hqn : q < N := by omega
      have hq2 : (q : Int) < (N : Int) := Int.ofNat_lt.2 hqn
      have hi3 : (i : Int) < (N : Int) := Int.ofNat_lt.2 hin
      have cell : ∀ k, k < N → w3.cell? ⟨g, k, none⟩ = some (.int .i64 (d.getD k 0)) := fun k hk => by
        rw [HO3.out.cellAt k (by omega), List.getElem?_map, List.getElem?_eq_getElem (by rw [HD.out.1]; exact hk), Option.map_some, List.getD_eq_getElem?_getD, List.getElem?_eq_getElem (by rw [HD.out.1]; exact hk)]
        rfl
      have cx := cell i hin
      have cy := cell q hqn
      have HD2 := hd (swap_ok HD.out.1 HD.out.2.1 HD.out.2.2 hin hqn)
      have EQ := hd (show ((d.map vi).set i (.int .i64 (d.getD q 0))).set q (.int .i64 (d.getD i 0)) = ((d.set i (d.getD q 0)).set q (d.getD i 0)).map vi by rw [List.map_set, List.map_set]; rfl)
      generalize (d.set i (d.getD q 0)).set q (d.getD i 0) = d2 at *
      clear cell HD
      generalize d.getD i 0 = x0 at *
      generalize d.getD q 0 = x1 at *
      go_wp2_with (first
        | ((with_reducible refine wpList_store_own _ w1.heap.size 2 1 N cg g _ HO3.out size_int i (.int .i64 x1) ?_ ?_ ?_ ?_ ?_); exact rfl; exact rfl; exact rfl; omega; intro w6 ho7 hg7)
        | ((with_reducible refine wpList_store_own _ w1.heap.size 2 1 N cg g _ ho7 size_int q (.int .i64 x0) ?_ ?_ ?_ ?_ ?_); exact rfl; exact rfl; exact rfl; omega; intro w8 ho9 hg9))
      have HS7 := hd (sbox_kept (show SBox w3 s _ _ from HS3.out) hg7 (by simp; omega))
      have HB7 := hd (below_row hg7 HB3.out (fun k e => by cases e; exact HSG.out))
      have HO9 := hd (show w8.ownsRow w1.heap.size 2 1 (.slice (some ⟨g, 0, none⟩) N cg) N (d2.map vi) by rw [← EQ.out]; exact ho9)
      have HS9 := hd (sbox_kept (show SBox w6 s _ _ from HS7.out) hg9 (by simp; omega))
      have HB9 := hd (below_row hg9 HB7.out (fun k e => by cases e; exact HSG.out))
      clear ho9 hg9
      go_roundw
      case rel => exact ⟨i - 1, A2, sd2, d2, by omega, by go_num, HD2, by omega, b3, b4, HS9, HO9, HB9⟩
      case measure => simp [intOf]; omega
end Go.Proofs.Ytkdjeneogclocaa
