/- slices.Repeat of one number, any: a row of n times it (turned from Rep). -/
import Derived.Test.YtgjjbnjahombdaaRep
namespace Go.Proofs.Ytgjjbnjahombdaa
open Go.RowKit Plain
set_option linter.unusedVariables false
set_option linter.unusedSimpArgs false
attribute [local go_sem ↓] Go.wp_at_zero Go.wp_at_succ
def repLX (x : Int) (n k : Nat) : List Value := List.replicate k (.int .i64 x) ++ List.replicate (n - k) (.int .i64 0)
theorem repLX_len {x : Int} {n k : Nat} (h : k ≤ n) : (repLX x n k).length = n := by simp [repLX]; omega
theorem repLX_one {x : Int} {n : Nat} (h : 1 ≤ n) : splice (List.replicate n (Value.int .i64 0)) 0 [.int .i64 x] = repLX x n 1 := by simp [splice, repLX]
theorem repLX_step {x : Int} {m p : Nat} (hm : 1 ≤ m) : splice (repLX x (m + p) m) m (List.replicate (min m p) (.int .i64 x)) = repLX x (m + p) (m + min m p) := by
  rw [repLX, show m + p - m = p by omega, rep_splice m p hm, repLX, show m + p - (m + min m p) = p - min m p by omega]
theorem repLX_all {x : Int} (n : Nat) : repLX x n n = List.replicate n (.int .i64 x) := by simp [repLX]
theorem repLX_at {x : Int} {n k j : Nat} (h : j < k) : (repLX x n k)[j]? = some (.int .i64 x) := by
  rw [repLX, List.getElem?_append_left (by simpa using h), List.getElem?_replicate, if_pos h]
set_option maxHeartbeats 2000000 in
set_option maxRecDepth 100000 in
theorem repeat_anyX (x : Int) (n : Nat) (h1 : 1 ≤ n) (h2 : n ≤ 24) (b : Nat) (w : World) (hc : w.cell? ⟨b, 0, none⟩ = some (.int .i64 x)) :
    Calls Try.prog 21 #[.slice (some ⟨b, 0, none⟩) 1 1, .int .i64 n] w (NewRow 2 1 n (List.replicate n (.int .i64 x)) w) := by
  have MU := hd (fun w => mul_one' n h2 w)
  obtain ⟨i0, hi, hz0, hz1, hz2⟩ := info_parts info_int
  have hb2 : i0.bytes * n ≤ 281474976710656 := by rw [hz2]; omega
  have hm : n ≤ maxLen := by unfold maxLen; omega
  have CP := hd (fun w1 hb hg => copy_runR w1 w.heap.size 0 n n b 0 1 1 (List.replicate n (.int .i64 0)) [.int .i64 x] hg (Nat.min_eq_left h1).symm (fun j v hj => by match j, hj with | 0, hj => (simp at hj; subst hj; exact below_at hb hc)) (by simp; omega) (by intro v hv; simp at hv; subst hv; rfl) w.heap.size w hb (Nat.le_refl _))
  go_enter Try.func21, Try.ntmps21
  go_wp2_with (first
    | (go_at_call 32; refine (MU.out _).mono ?_; rintro e w' ⟨rfl, hw⟩; replace hw := hw.symm; subst hw)
    | (at_make; go_must (refine wpList_make_full _ rfl (.tmp 29) (.tmp 29) 25 rfl w.heap.size 2 i0 (.int .i64 0) 1 Try.underlying25 hi hz0 hz1 .i64 .i64 _ _ n rfl rfl rfl rfl hb2 hm (Nat.le_refl _) ?_); intro w1 hown hgrow; have hg1 := own_cells hown; rw [made_one _ _ rfl] at hg1; obtain ⟨w2, hrun, HG2, hB2⟩ := CP.out w1 (below_none hgrow) hg1; clear hown hgrow hg1))
  clear hrun
  rw [repLX_one h1] at HG2
  go_loopw [8] (fun m wr => ∃ k : Nat, 1 ≤ k ∧ k ≤ n ∧ m = .int .i64 k ∧ Hid (wr.heap[w.heap.size]? = some (.cells (repLX x n k).toArray 2 (0, 0))) ∧ Below w.heap.size w wr) (fun m _ => n - (intOf m).toNat)
  case atStart => exact ⟨1, by omega, h1, by first | rfl | go_num, HG2, hB2⟩
  case round =>
    clear HG2 hB2
    obtain ⟨k, hk1, hk2, rfl, HG, hb⟩ := hrel
    by_cases hlt : k < n
    · obtain ⟨p, rfl⟩ : ∃ p, n = k + p := ⟨n - k, by omega⟩
      have hcell : ∀ j, j < k → wr.drew.cell? ⟨w.heap.size, 0 + j, none⟩ = some (.int .i64 x) := fun j hj => by
        rw [Nat.zero_add]
        exact (cell_of_row wr w.heap.size j _ _ _ HG.out).trans (by rw [List.getElem?_toArray]; exact repLX_at hj)
      obtain ⟨w2, hrun, HG2, hB2⟩ := copy_runR wr.drew w.heap.size k p p w.heap.size 0 k (k + p) (repLX x (k + p) k) (List.replicate (min k p) (.int .i64 x)) HG.out (by simp) (fun j v hj => by
        rw [List.getElem?_replicate] at hj
        split at hj
        · cases hj; exact hcell j (by omega)
        · cases hj) (by rw [repLX_len (by omega)]; simp; omega) (by intro v hv; rw [List.mem_replicate] at hv; rw [hv.2]; rfl) w.heap.size w hb.drew (Nat.le_refl _)
      rw [repLX_step hk1] at HG2
      simp only [List.length_replicate] at hrun
      have Hb := hd hb
      clear hcell hb
      go_wp2
      go_region
      clear hrun
      go_wp2
      go_roundw
      case rel => exact ⟨k + min k p, by omega, by omega, by push_cast; rfl, HG2, hB2⟩
      case measure => simp [intOf]; omega
    · have e : k = n := by omega
      subst e
      go_wp2
      go_ret
      exact ⟨_, rfl, by have h := HG.out; rw [repLX_all] at h; exact cells_own h (by simp) (Nat.le_refl _) hm, hb⟩
end Go.Proofs.Ytgjjbnjahombdaa
