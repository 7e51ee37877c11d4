/- What ends of jobs cost: a contract. -/
import Derived.Test.YtjddlgmdbkaieaaJobC
import Derived.Deep.RegionWith
namespace Go.Proofs.Ytjddlgmdbkaieaa
open Go.RowKit Plain
set_option linter.unusedVariables false
set_option linter.unusedSimpArgs false
attribute [local go_sem ↓] Go.wp_at_zero Go.wp_at_succ
theorem mul_bd {x y M : Int} (hx0 : 0 ≤ x) (hx1 : x ≤ 10000) (hy0 : 0 ≤ y) (hy1 : y ≤ 250000) : 0 ≤ x * y ∧ x * y ≤ 2500000000 := by
  have m1 := Int.mul_nonneg hx0 hy0
  have m2 : x * y ≤ 10000 * 250000 := Int.le_trans (Int.mul_le_mul_of_nonneg_right hx1 hy0) (Int.mul_le_mul_of_nonneg_left hy1 (by omega))
  omega
set_option maxHeartbeats 2000000 in
theorem share_any (qa qb qc qd : Int) (h : jobOk ⟨qa, qb, qc, qd⟩) (kind : Nat) (hk : kind ≤ 4) (e : Int) (e0 : 0 ≤ e) (e1 : e ≤ 250000) (w : World) :
    Calls Try.prog 41 #[.agg #[.int .i64 qa, .int .i64 qb, .int .i64 qc, .int .i64 qd], .int .i64 kind, .int .i64 e] w fun r w' => r = .returned (.int .i64 (shareF kind ⟨qa, qb, qc, qd⟩ e)) ∧ Below w.heap.size w w' := by
  obtain ⟨⟨a0, a1⟩, ⟨b0, b1⟩, ⟨c0, c1⟩, d0, d1⟩ := h
  simp only at a0 a1 b0 b1 c0 c1 d0 d1
  have m1 := mul_bd (M := 0) d0 d1 e0 e1
  have m2 := mul_bd (M := 0) d0 d1 (show 0 ≤ max 0 (e - qc) by omega) (show max 0 (e - qc) ≤ 250000 by omega)
  rw [max_if] at m2
  have hw0 : IntKind.i64.wrap (e - qc) = e - qc := IntWalk.i64_in _ (by omega)
  have hw1 : IntKind.i64.wrap (qd * e) = qd * e := IntWalk.i64_in _ (by omega)
  have hw2 : IntKind.i64.wrap (qd * if 0 < e - qc then e - qc else 0) = qd * if 0 < e - qc then e - qc else 0 := IntWalk.i64_in _ (by omega)
  have HS := hd (show shareF kind ⟨qa, qb, qc, qd⟩ e = if kind = 0 then e else if kind = 1 then qd * e else if kind = 2 then e - qc else if kind = 3 then qd * (if 0 < e - qc then e - qc else 0) else if qc < e then 1 else 0 by rw [shareF, max_if])
  have HB := hd ((Below.refl _ w).alloc (Nat.le_refl _) (.cells #[.int .i64 qa, .int .i64 qb, .int .i64 qc, .int .i64 qd] 41))
  rw [HS.out]
  clear HS a0 a1 b0 b1 m1 m2 d0 d1
  match kind, hk with
  | 0, _ =>
    go_enter Try.func41, Try.ntmps41
    go_wp2
    go_ret
    exact ⟨rfl, HB.out⟩
  | 1, _ =>
    go_enter Try.func41, Try.ntmps41
    go_wp2
    go_ret
    exact ⟨rfl, HB.out⟩
  | 2, _ =>
    go_enter Try.func41, Try.ntmps41
    go_wp2
    go_ret
    exact ⟨rfl, HB.out⟩
  | 3, _ =>
    by_cases hz : 0 < e - qc
    · rw [if_pos hz] at hw2
      go_enter Try.func41, Try.ntmps41
      go_wp2
      go_ret
      exact ⟨by simp [hz, go_sem, hw2], HB.out⟩
    · rw [if_neg hz] at hw2
      go_enter Try.func41, Try.ntmps41
      go_wp2
      go_ret
      exact ⟨by simp [hz, go_sem, hw2], HB.out⟩
  | 4, _ =>
    by_cases hlt : qc < e
    · go_enter Try.func41, Try.ntmps41
      go_wp2
      go_ret
      exact ⟨by simp [hlt, go_sem], HB.out⟩
    · go_enter Try.func41, Try.ntmps41
      go_wp2
      go_ret
      exact ⟨by simp [hlt, go_sem], HB.out⟩
set_option maxHeartbeats 1000000 in
theorem greatest_any (kind : Nat) (hk : kind ≤ 4) (w : World) : Calls Try.prog 47 #[.int .i64 kind] w fun r w' => r = .returned (.bool (topF kind)) ∧ w' = w := by
  match kind, hk with
  | 0, _ => go_enter Try.func47, Try.ntmps47
            go_wp2
            go_ret
            exact ⟨rfl, rfl⟩
  | 1, _ => go_enter Try.func47, Try.ntmps47
            go_wp2
            go_ret
            exact ⟨rfl, rfl⟩
  | 2, _ => go_enter Try.func47, Try.ntmps47
            go_wp2
            go_ret
            exact ⟨rfl, rfl⟩
  | 3, _ => go_enter Try.func47, Try.ntmps47
            go_wp2
            go_ret
            exact ⟨rfl, rfl⟩
  | 4, _ => go_enter Try.func47, Try.ntmps47
            go_wp2
            go_ret
            exact ⟨rfl, rfl⟩
set_option maxHeartbeats 1000000 in
theorem both_any (kind : Nat) (hk : kind ≤ 4) (a b : Int) (ha : -1000000000000 ≤ a ∧ a ≤ 1000000000000) (hb : -1000000000000 ≤ b ∧ b ≤ 1000000000000) (w : World) :
    Calls Try.prog 42 #[.int .i64 kind, .int .i64 a, .int .i64 b] w fun r w' => r = .returned (.int .i64 (bothF kind a b)) ∧ w' = w := by
  have G := hd (greatest_any kind hk w)
  have hw : IntKind.i64.wrap (a + b) = a + b := IntWalk.i64_in _ (by omega)
  rw [bothF, max_if]
  clear ha hb
  cases ht : topF kind with
  | true =>
    rw [ht] at G
    clear ht
    go_enter Try.func42, Try.ntmps42
    go_wp2_with (go_at_call 47; refine G.out.mono ?_; rintro e w' ⟨rfl, hw⟩; subst hw)
    all_goals (go_ret; refine ⟨?_, rfl⟩; simp [*])
  | false =>
    rw [ht] at G
    clear ht
    go_enter Try.func42, Try.ntmps42
    go_wp2_with (go_at_call 47; refine G.out.mono ?_; rintro e w' ⟨rfl, hw⟩; subst hw)
    all_goals (go_ret; refine ⟨?_, rfl⟩; simp [*])
set_option maxHeartbeats 4000000 in
theorem costOf_any (U V : Value) (l : List Q4) (x : List Int) (n kind : Nat) (hk : kind ≤ 4) (w : World) (hj : JobsAt w U l n) (hs : Sl w 1 V n (x.map vi)) (hx : ∀ j, 0 ≤ x.getD j 0 ∧ x.getD j 0 ≤ 250000) :
    Calls Try.prog 24 #[U, V, .int .i64 kind] w fun r w' => r = .returned (.int .i64 (costF kind l x (n - 1))) ∧ Below w.heap.size w w' := by
  have HJ := hd hj
  have HX := hd hx
  have n1 := hj.n1
  have n24 := hj.n24
  obtain ⟨A, cap, rfl, hcap, hr⟩ := hs
  obtain ⟨B, capb, rfl, hcapb, hrb⟩ := hj.sl
  have HR := hd hr
  have HRB := hd hrb
  have SH := hd (fun qa qb qc qd h e e0 e1 w => share_any qa qb qc qd h kind hk e e0 e1 w)
  have BO := hd (fun a b ha hb w => both_any kind hk a b ha hb w)
  have CB := hd (fun k => costF_bd (kind := kind) hj.ok hx k)
  have SB := hd (fun qa qb qc qd (h : jobOk ⟨qa, qb, qc, qd⟩) e e0 e1 => share_bd (kind := kind) (q := ⟨qa, qb, qc, qd⟩) (e := e) h e0 e1)
  have hk2 : (kind : Int) ≤ 4 := by omega
  obtain ⟨b, off, rfl, hc⟩ := hr.int (show 0 < n by omega)
  obtain ⟨b2, off2, qa, qb, qc, qd, rfl, hq, c0, c1, c2, c3⟩ := hrb.q4 (show 0 < n by omega)
  have hx0 := hx 0
  have HK := hd (HJ.out.at hq.out)
  have E0 := hd (show shareF kind ⟨qa, qb, qc, qd⟩ (x.getD 0 0) = costF kind l x 0 by rw [costF, jobAt_at hq.out])
  rw [show off2 + 0 * 4 = off2 by omega] at c0 c1 c2 c3
  rw [show off + 0 = off from rfl] at hc
  clear hr hrb hj hx hq
  generalize x.getD 0 0 = x0 at *
  have hns : ¬ n < 1 := by omega
  have hn0 : 0 < n := by omega
  have hn0' : (0 : Int) < (n : Int) := by omega
  go_enter Try.func24, Try.ntmps24
  go_wp2_with fail
  go_region_held3 (fun w' => (w'.cell? ⟨b2, off2, none⟩ = some (.int .i64 qa) ∧ w'.cell? ⟨b2, off2 + 1, none⟩ = some (.int .i64 qb) ∧ w'.cell? ⟨b2, off2 + 2, none⟩ = some (.int .i64 qc) ∧ w'.cell? ⟨b2, off2 + 3, none⟩ = some (.int .i64 qd)) ∧ w'.cell? ⟨b, off, none⟩ = some (.int .i64 x0) ∧ Below w.heap.size w w')
    (first | exact hkk | exact ⟨⟨c0, c1, c2, c3⟩, hc, below_drewN (Below.refl _ _) 1⟩)
    (first
      | (go_at_call 41; refine (SH.out qa qb qc qd HK.out x0 hx0.1 hx0.2 _).mono ?_; rintro e w6 ⟨rfl, hb6⟩; have hB6 := below_tr hb6 (‹_ ∧ _ ∧ Below w.heap.size w _›).2.2; have hkk := (show (_ ∧ _ ∧ _ ∧ _) ∧ _ ∧ Below w.heap.size w w6 from ⟨⟨below_at hB6 c0, below_at hB6 c1, below_at hB6 c2, below_at hB6 c3⟩, below_at hB6 hc, hB6⟩)))
  all_goals
    rw [E0.out]
    have HB6 := hd hB6
    clear hB6 hkk c0 c1 c2 c3 hc hx0
    go_wp2
    all_goals
      go_loopw [7, 21] (fun cv iv wr => ∃ (k : Nat), k ≤ n - 1 ∧ iv = .int .i64 k ∧ cv = .int .i64 (costF kind l x k) ∧ Hid (Below w.heap.size w wr)) (fun _ iv _ => n - (intOf iv).toNat)
      case atStart => exact ⟨0, by omega, rfl, rfl, HB6⟩
      case round =>
        clear HB6
        obtain ⟨k, hk, rfl, rfl, HB⟩ := hrel
        by_cases hlt : k < n - 1
        · have hk1 : k + 1 < n := by omega
          obtain ⟨b', off', e1, hc⟩ := (HR.out.below HB.out).int hk1
          cases e1
          rw [show off + (k + 1) = off + 1 + k by omega] at hc
          obtain ⟨b3, off3, ra, rb, rc, rd, e2, hq3, c0, c1, c2, c3⟩ := (HRB.out.below HB.out).q4 hk1
          cases e2
          have HK3 := hd (HJ.out.at hq3.out)
          have hxk := HX.out (k + 1)
          have hcb := CB.out k
          have hcs := SB.out ra rb rc rd HK3.out (x.getD (k + 1) 0) hxk.1 hxk.2
          have E1 := hd (show bothF kind (costF kind l x k) (shareF kind ⟨ra, rb, rc, rd⟩ (x.getD (k + 1) 0)) = costF kind l x (k + 1) by rw [costF, jobAt_at hq3.out])
          generalize x.getD (k + 1) 0 = xk at *
          have BK := hd (fun w => BO.out (costF kind l x k) (shareF kind ⟨ra, rb, rc, rd⟩ xk) (by omega) (by omega) w)
          obtain ⟨k9, hk9⟩ : ∃ k9, k9 = k + 1 := ⟨_, rfl⟩
          have hwk : IntKind.i64.wrap ((k : Int) + 1) = (k9 : Int) := by rw [IntWalk.i64_in _ (by omega), hk9]; push_cast; rfl
          have hk92 : (k9 : Int) < (n : Int) := by omega
          rw [← hk9] at c0 c1 c2 c3 E1
          have HK9 := hd hk9
          have hlt2 : (k : Int) < ((n - 1 : Nat) : Int) := Int.ofNat_lt.2 hlt
          clear hcb hcs hk1 hk9
          go_wp2_with (first
            | (go_at_call 41; refine (SH.out ra rb rc rd HK3.out xk hxk.1 hxk.2 _).mono ?_; rintro e w7 ⟨rfl, hb7⟩; have hB7 := below_tr hb7 HB.out)
            | (go_at_call 42; refine (BK.out _).mono ?_; rintro e w8 ⟨rfl, hw⟩; subst hw))
          all_goals
            rw [E1.out]
            have HK99 := HK9.out
            go_roundw
            case rel => exact ⟨k9, by omega, by first | rfl | go_num | (rw [HK99]; go_num), rfl, hd hB7⟩
            case measure => simp [intOf]; omega
        · obtain rfl : k = n - 1 := by omega
          go_wp2
          go_ret
          exact ⟨rfl, HB.out⟩
end Go.Proofs.Ytjddlgmdbkaieaa
