/- How long jobs are there in the mean: a contract for small sums. -/
import Derived.Test.YtjddlgmdbkaieaaJobC
import Derived.Test.YtjddlgmdbkaieaaRulF
namespace Go.Proofs.Ytjddlgmdbkaieaa
open Go.RowKit Plain
set_option linter.unusedVariables false
set_option linter.unusedSimpArgs false
attribute [local go_sem ↓] Go.wp_at_zero Go.wp_at_succ
set_option maxHeartbeats 2000000 in
theorem MeanFlow_any (U V : Value) (l : List Q4) (d : List Int) (n : Nat) (n2 : 1 < n) (n8 : n < 9) (hf : 0 ≤ flowO l (ordF d) n n ∧ flowO l (ordF d) n n ≤ 324) (w : World) (hj : JobsAt w U l n) (h : OrdAt w V d n) :
    Calls Try.prog 10 #[U, V] w fun r w' => r = .returned (.tuple #[.float .f32 (mW (flowO l (ordF d) n n).toNat n), .bool true]) ∧ Below w.heap.size w w' := by
  have HJ := hd hj
  have FB := hd (fun k => flowO_bd hj.ok h.perm.lt hj.n24 k)
  have EB := hd (fun k => endsL_bd hj.ok h.perm.lt n (Nat.le_refl _) hj.n24 k)
  have HI := hd (orders_any U V l d n w hj h)
  have HE := hd (fun w' (hb : Below w.heap.size w w') => endsOf_any U V l d n w' (hj.below hb) (h.below hb))
  have FD := hd (fun k => (show flowO l (ordF d) n (k + 1) = flowO l (ordF d) n k + ((endsL l (ordF d) n n).getD k 0 - (jobAt l k).b) from rfl))
  have F0 := hd (show flowO l (ordF d) n 0 = 0 from rfl)
  obtain ⟨s, hs⟩ : ∃ s : Nat, s = (flowO l (ordF d) n n).toNat := ⟨_, rfl⟩
  have FN := hd (show flowO l (ordF d) n n = (s : Int) by omega)
  have HT := hd (m_tab n n8 s (by omega) n2)
  have hmw : floatBits .quo .f32 (floatOfInt .f32 (s : Int)) (floatOfInt .f32 (n : Int)) = some (mW s n) := HT.out
  have HQ := fun w => run_float_arith (P := Try.prog) w .quo 33 .f32 _ _ _ hmw
  rw [← hs]
  obtain ⟨B, capb, rfl, hcapb, hrb⟩ := hj.sl
  have HRB := hd hrb
  generalize flowO l (ordF d) n = F at *
  obtain ⟨X, hX⟩ : ∃ X, X = endsL l (ordF d) n n := ⟨_, rfl⟩
  rw [← hX] at EB FD
  have HXE := hd hX
  clear hX
  generalize mW s n = mw at *
  have HMW := hd hmw
  have n24 := hj.n24
  clear hj h hs hf hmw HT hrb HQ
  have HJO := HJ
  go_enter Try.func10, Try.ntmps10
  go_wp2_with (first
    | (go_at_call 23; refine HI.out.mono ?_; rintro e w1 ⟨rfl, hb1⟩)
    | (go_at_call 25; refine (HE.out _ hb1).mono ?_; rintro e w2 ⟨rfl, ho2, hb2⟩))
  have HR := hd (own_sl ho2 (by unfold maxLen; omega))
  have HB2 := hd (below_tr hb2 hb1)
  obtain ⟨gx, hgx⟩ : ∃ gx, gx = w1.heap.size := ⟨_, rfl⟩
  have HRR := hd (show Rd w2 1 (some ⟨gx, 0, none⟩) n (X.map vi) by
    obtain ⟨A, cap, e, _, hr⟩ := HR.out
    cases e
    rw [hgx, HXE.out]; exact hr)
  rw [← hgx]
  clear hb1 hb2 ho2 HR HI HE hgx
  go_loopw [6, 17] (fun sv iv wr => ∃ (k : Nat), k ≤ n ∧ iv = .int .i64 k ∧ sv = .int .i64 (F k) ∧ wr = w2) (fun _ iv _ => n - (intOf iv).toNat)
  case atStart => exact ⟨0, by omega, rfl, by rw [F0.out], rfl⟩
  case round =>
    obtain ⟨k, hk, rfl, rfl, hw⟩ := hrel
    subst hw
    by_cases hlt : k < n
    · obtain ⟨b', off', e0, hc⟩ := HRR.out.int hlt
      cases e0
      rw [Nat.zero_add] at hc
      obtain ⟨b2, off2, qa, qb, qc, qd, rfl, hq, c0, c1, c2, c3⟩ := (HRB.out.below HB2.out).q4 hlt
      obtain ⟨_, ⟨b0, b1⟩, _⟩ := HJ.out.at hq.out
      simp only at b0 b1
      have k2 : (k : Int) < (n : Int) := Int.ofNat_lt.2 hlt
      have fb := FB.out k
      have eb := EB.out k
      have HS := hd (show F (k + 1) = F k + (X.getD k 0 - qb) by rw [FD.out, jobAt_at hq.out])
      generalize X.getD k 0 = x at *
      generalize hfk : F k = f at *
      have hw1 : IntKind.i64.wrap (x - qb) = x - qb := IntWalk.i64_in _ (by omega)
      have hw2 : IntKind.i64.wrap (f + (x - qb)) = f + (x - qb) := IntWalk.i64_in _ (by omega)
      clear hfk c0 c2 c3 hq
      go_wp2
      go_roundw
      case rel => exact ⟨k + 1, by omega, by go_num, by rw [HS.out], by first | rfl | trivial⟩
      case measure => simp [intOf]; omega
    · obtain rfl : k = n := by omega
      have hn0 : (0 : Int) ≤ (k : Int) := by omega
      rw [FN.out]
      have HQ := fun w => run_float_arith (P := Try.prog) w .quo 33 .f32 _ _ _ HMW.out
      go_wp2
      go_ret2
      exact ⟨rfl, HB2.out⟩
end Go.Proofs.Ytjddlgmdbkaieaa
