/- The ends of jobs in an order: a contract. -/
import Derived.Test.YtjddlgmdbkaieaaJobB
namespace Go.Proofs.Ytjddlgmdbkaieaa
open Go.RowKit Plain
set_option linter.unusedVariables false
set_option linter.unusedSimpArgs false
attribute [local go_sem ↓] Go.wp_at_zero Go.wp_at_succ
theorem max_if (a b : Int) : max a b = if a < b then b else a := by split <;> omega
def EndsOut (l : List Q4) (d : List Int) (n : Nat) (w : World) (r : Ending) (w' : World) : Prop :=
  r = .returned (.slice (some ⟨w.heap.size, 0, none⟩) n n) ∧ w'.ownsRow w.heap.size 2 1 (.slice (some ⟨w.heap.size, 0, none⟩) n n) n ((endsL l (ordF d) n n).map vi) ∧ Below w.heap.size w w'
set_option maxHeartbeats 2000000 in
theorem endsOf_any (U V : Value) (l : List Q4) (d : List Int) (n : Nat) (w : World) (hj : JobsAt w U l n) (h : OrdAt w V d n) :
    Calls Try.prog 25 #[U, V] w (EndsOut l d n w) := by
  have HO := hd h
  have HJ := hd hj
  have n1 := hj.n1
  have n24 := hj.n24
  obtain ⟨A, cap, rfl, hcap, hr⟩ := h.sl
  obtain ⟨B, capb, rfl, hcapb, hrb⟩ := hj.sl
  have HR := hd hr
  have HRB := hd hrb
  clear h hr hj hrb
  go_enter Try.func25, Try.ntmps25
  go_wp2_with (at_make; go_must (refine wpList_make_int _ rfl _ rfl _ _ n rfl rfl (by omega) ?_); intro w2 ho2 hb2)
  have HO2 := hd (show w2.ownsRow w.heap.size 2 1 (.slice (some ⟨w.heap.size, 0, none⟩) n n) n ((endsL l (ordF d) n 0).map vi) by rw [endsL, List.map_replicate]; exact ho2)
  have HB2 := hd hb2
  clear ho2 hb2
  go_loopw [6, 14] (fun av iv wr => ∃ (k : Nat), k ≤ n ∧ iv = .int .i64 k ∧ av = .int .i64 (endF l (ordF d) k) ∧ Hid (wr.ownsRow w.heap.size 2 1 (.slice (some ⟨w.heap.size, 0, none⟩) n n) n ((endsL l (ordF d) n k).map vi)) ∧ Hid (Below w.heap.size w wr)) (fun _ iv _ => n - (intOf iv).toNat)
  case atStart => exact ⟨0, by omega, rfl, rfl, HO2, HB2⟩
  case round =>
    clear HO2 HB2
    obtain ⟨k, hk, rfl, rfl, HW, HB⟩ := hrel
    by_cases hlt : k < n
    · obtain ⟨b, off, rfl, hc⟩ := (HR.out.below HB.out).int hlt
      rw [HO.out.cast hlt] at hc
      have hx := HO.out.perm.lt k hlt
      obtain ⟨b2, off2, qa, qb, qc, qd, rfl, hq, c0, c1, c2, c3⟩ := (HRB.out.below HB.out).q4 hx
      obtain ⟨⟨a0, a1⟩, ⟨b0, b1⟩, _⟩ := HJ.out.at hq.out
      simp only at a0 a1 b0 b1
      have hbd := endF_bd HJ.out.ok (ordF d) k
      have HE := hd (show endF l (ordF d) (k + 1) = (if endF l (ordF d) k < qb then qb else endF l (ordF d) k) + qa by rw [endF, jobAt_at hq.out, max_if])
      have HM := hd (show ((endsL l (ordF d) n k).map vi).set (ordF d k) (.int .i64 ((if endF l (ordF d) k < qb then qb else endF l (ordF d) k) + qa)) = (endsL l (ordF d) n (k + 1)).map vi by rw [endsL, List.map_set, HE.out]; rfl)
      clear c2 c3 hq
      generalize ordF d k = x at *
      generalize hy : endF l (ordF d) k = y at *
      clear hy
      have hx2 : (x : Int) < (n : Int) := Int.ofNat_lt.2 hx
      have hw1 : IntKind.i64.wrap ((if y < qb then qb else y) + qa) = (if y < qb then qb else y) + qa := IntWalk.i64_in _ (by split <;> omega)
      go_wp2_with fail
      go_quiet (fail)
      obtain ⟨W, hW⟩ : ∃ W, W = wr.drewN nq := ⟨_, rfl⟩
      have HW' := hd (show W.ownsRow w.heap.size 2 1 (.slice (some ⟨w.heap.size, 0, none⟩) n n) n ((endsL l (ordF d) n k).map vi) by rw [hW]; exact HW.out)
      have HB' := hd (show Below w.heap.size w W by rw [hW]; exact below_drewN HB.out _)
      rw [← hW]
      clear hW HW HB c0 c1 hc
      go_wp2_with ((with_reducible refine wpList_store_own _ w.heap.size 2 1 n n w.heap.size _ HW'.out size_int ?_ ?_ ?_ ?_ ?_ ?_ ?_); rotate_left 2; exact rfl; exact rfl; exact rfl; omega; intro w6 ho7 hg7)
      have HO7 := hd (show w6.ownsRow w.heap.size 2 1 (.slice (some ⟨w.heap.size, 0, none⟩) n n) n ((endsL l (ordF d) n (k + 1)).map vi) by rw [← HM.out]; exact ho7)
      have HB7 := hd (below_row hg7 HB'.out (fun k e => by cases e; exact Nat.le_refl _))
      clear ho7 hg7
      go_roundw
      case rel => exact ⟨k + 1, by omega, by go_num, by rw [HE.out], HO7, HB7⟩
      case measure => simp [intOf]; omega
    · obtain rfl : k = n := by omega
      go_wp2
      go_ret
      exact ⟨rfl, HW.out, HB.out⟩
def EndsOut2 (l : List Q4) (d : List Int) (n : Nat) (w : World) (r : Ending) (w' : World) : Prop :=
  ∃ u, r = .returned (.tuple #[u, .bool true]) ∧ w'.ownsRow w.heap.size 2 1 u n ((endsL l (ordF d) n n).map vi) ∧ Below w.heap.size w w'
set_option maxHeartbeats 400000 in
theorem EndsOf_any (U V : Value) (l : List Q4) (d : List Int) (n : Nat) (w : World) (hj : JobsAt w U l n) (h : OrdAt w V d n) :
    Calls Try.prog 13 #[U, V] w (EndsOut2 l d n w) := by
  have HI := hd (orders_any U V l d n w hj h)
  have HE := hd (fun w' (hb : Below w.heap.size w w') => endsOf_any U V l d n w' (hj.below hb) (h.below hb))
  clear h hj
  go_enter Try.func13, Try.ntmps13
  go_wp2_with (first
    | (go_at_call 23; refine HI.out.mono ?_; rintro e w1 ⟨rfl, hb1⟩)
    | (go_at_call 25; refine (HE.out _ hb1).mono ?_; rintro e w2 ⟨rfl, ho2, hb2⟩))
  go_ret2
  exact ⟨_, rfl, own_mono ho2 hb1.size, below_tr hb2 hb1⟩
end Go.Proofs.Ytjddlgmdbkaieaa
