/- slices.Repeat of one number: a row of n times -1. -/
import Derived.Test.YtkaopdpdfbkchaaProg
import Derived.Test.YtkaopdpdfbkchaaApp
import Derived.Test.YtkaopdpdfbkchaaStoreOwn
import Derived.Test.YtkaopdpdfbkchaaSlice
import Derived.Laws.CopyOwn
import Derived.Deep.RegionLaw
namespace Go.Proofs.Ytkaopdpdfbkchaa
open Go.RowKit Plain
set_option linter.unusedVariables false
set_option linter.unusedSimpArgs false
attribute [local go_sem ↓] Go.wp_at_zero Go.wp_at_succ

theorem upto24 {n : Nat} (h : n ≤ 24) : n = 0 ∨ n = 1 ∨ n = 2 ∨ n = 3 ∨ n = 4 ∨ n = 5 ∨ n = 6 ∨ n = 7 ∨ n = 8 ∨ n = 9 ∨ n = 10 ∨ n = 11 ∨ n = 12 ∨ n = 13 ∨ n = 14 ∨ n = 15 ∨ n = 16 ∨ n = 17 ∨ n = 18 ∨ n = 19 ∨ n = 20 ∨ n = 21 ∨ n = 22 ∨ n = 23 ∨ n = 24 := by omega
set_option maxHeartbeats 4000000 in
theorem mul64_one (n : Nat) (h : n ≤ 24) (w : World) : Calls Try.prog 45 #[.int .u64 1, .int .u64 n] w fun r w' => r = .returned (.tuple #[.int .u64 0, .int .u64 n]) ∧ w' = w := by
  rcases upto24 h with rfl | rfl | rfl | rfl | rfl | rfl | rfl | rfl | rfl | rfl | rfl | rfl | rfl | rfl | rfl | rfl | rfl | rfl | rfl | rfl | rfl | rfl | rfl | rfl | rfl
  all_goals
    go_enter Try.func45, Try.ntmps45
    go_wp2
    refine bodyPost_ret (by simp [results, Try.results45, go_sem] <;> rfl) rfl ⟨rfl, rfl⟩
theorem mul_one' (n : Nat) (h : n ≤ 24) (w : World) : Calls Try.prog 42 #[.int .u64 1, .int .u64 n] w fun r w' => r = .returned (.tuple #[.int .u64 0, .int .u64 n]) ∧ w' = w := by
  have M := hd (fun w => mul64_one n h w)
  go_enter Try.func42, Try.ntmps42
  go_wp2_with (go_at_call 45; refine (M.out _).mono ?_; rintro e w' ⟨rfl, hw⟩; replace hw := hw.symm; subst hw)
  refine bodyPost_ret (by simp [results, Try.results42, go_sem] <;> rfl) rfl ⟨rfl, rfl⟩

theorem rep_splice (m p : Nat) (hm : 1 ≤ m) (x z : Value) : splice (List.replicate m x ++ List.replicate p z) m (List.replicate (min m p) x) = List.replicate (m + min m p) x ++ List.replicate (p - min m p) z := by
  unfold splice
  rw [List.take_append_of_le_length (by simp), List.take_of_length_le (by simp), List.drop_append]
  simp only [List.length_replicate]
  rw [List.drop_of_length_le (by simp), List.nil_append, show m + min m p - m = min m p by omega, List.drop_replicate, ← List.append_assoc, List.replicate_append_replicate]
theorem own_cells {w : World} {base g n : Nat} {e : TypeId} {xs : List Value} (h : w.ownsRow base e 1 (.slice (some ⟨g, 0, none⟩) n n) n xs) : w.heap[g]? = some (.cells xs.toArray e (0, 0)) := by
  rcases h.2 with ⟨h', _⟩ | ⟨g', cap', cur, h', _, hg, _, _, hs, htake⟩
  · simp at h'
  · simp only [Value.slice.injEq, Option.some.injEq, Addr.mk.injEq, and_true, true_and] at h'
    obtain ⟨rfl, rfl⟩ := h'
    rw [hg, ← htake, List.take_of_length_le (by simp; omega)]
theorem cells_own {w : World} {base g n : Nat} {e : TypeId} {xs : List Value} (hg : w.heap[g]? = some (.cells xs.toArray e (0, 0))) (hn : xs.length = n) (hb : base ≤ g) (hm : n ≤ maxLen) : w.ownsRow base e 1 (.slice (some ⟨g, 0, none⟩) n n) n xs :=
  ⟨by omega, .inr ⟨g, n, xs.toArray, rfl, hb, hg, Nat.le_refl _, hm, by simp [hn], List.take_of_length_le (by simp [hn])⟩⟩
def repL (n k : Nat) : List Value := List.replicate k (.int .i64 (-1)) ++ List.replicate (n - k) (.int .i64 0)
theorem repL_len {n k : Nat} (h : k ≤ n) : (repL n k).length = n := by simp [repL]; omega
theorem repL_one {n : Nat} (h : 1 ≤ n) : splice (List.replicate n (Value.int .i64 0)) 0 [.int .i64 (-1)] = repL n 1 := by simp [splice, repL]
theorem repL_step {m p : Nat} (hm : 1 ≤ m) : splice (repL (m + p) m) m (List.replicate (min m p) (.int .i64 (-1))) = repL (m + p) (m + min m p) := by
  rw [repL, show m + p - m = p by omega, rep_splice m p hm, repL, show m + p - (m + min m p) = p - min m p by omega]
theorem repL_all (n : Nat) : repL n n = List.replicate n (.int .i64 (-1)) := by simp [repL]
theorem repL_at {n k j : Nat} (h : j < k) : (repL n k)[j]? = some (.int .i64 (-1)) := by
  rw [repL, List.getElem?_append_left (by simpa using h), List.getElem?_replicate, if_pos h]
theorem copy_runR (w : World) (g o dLen dCap b o' sLen sCap : Nat) (cur : List Value) (cs : List Value) (hg : w.heap[g]? = some (.cells cur.toArray 2 (0, 0))) (hn : cs.length = Nat.min sLen dLen)
    (hsrc : ∀ j v, cs[j]? = some v → w.cell? ⟨b, o' + j, none⟩ = some v) (hfit : o + cs.length ≤ cur.length) (h1 : ∀ v ∈ cs, v.oneCell' = true) (B : Nat) (w0 : World) (hb : Below B w0 w) (hB : B ≤ g) :
    ∃ w', (Builtin.copy_ #[25, 25] 3 #[.slice (some ⟨g, o, none⟩) dLen dCap, .slice (some ⟨b, o', none⟩) sLen sCap]).run Try.prog w = .ok (.int .i64 cs.length) w' ∧ Hid (w'.heap[g]? = some (.cells (splice cur o cs).toArray 2 (0, 0))) ∧ Below B w0 w' := by
  have hr := run_copy_row (P := Try.prog) w 25 25 3 2 g o dLen dCap ⟨b, o', none⟩ sLen sCap cur.toArray 2 cs Try.underlying25 size_int hg hn (fun j v hj => by rw [show (⟨b, o', none⟩ : Addr).add j = ⟨b, o' + j, none⟩ by unfold Addr.add; by_cases h : j = 0 <;> simp [h]]; exact hsrc j v hj) (by simpa using hfit) h1
  refine ⟨_, hr, ?_, below_setRow hb hB _⟩
  have := setRow_heap w g cur.toArray (splice cur o cs).toArray 2 (0, 0) hg
  simpa [splice, Hid] using this
set_option maxHeartbeats 2000000 in
set_option maxRecDepth 100000 in
theorem repeat_any (n : Nat) (h1 : 1 ≤ n) (h2 : n ≤ 24) (b : Nat) (w : World) (hc : w.cell? ⟨b, 0, none⟩ = some (.int .i64 (-1))) :
    Calls Try.prog 36 #[.slice (some ⟨b, 0, none⟩) 1 1, .int .i64 n] w (NewRow 2 1 n (List.replicate n (.int .i64 (-1))) w) := by
  have MU := hd (fun w => mul_one' n h2 w)
  obtain ⟨i0, hi, hz0, hz1, hz2⟩ := info_parts info_int
  have hb2 : i0.bytes * n ≤ 281474976710656 := by rw [hz2]; omega
  have hm : n ≤ maxLen := by unfold maxLen; omega
  have CP := hd (fun w1 hb hg => copy_runR w1 w.heap.size 0 n n b 0 1 1 (List.replicate n (.int .i64 0)) [.int .i64 (-1)] hg (Nat.min_eq_left h1).symm (fun j v hj => by match j, hj with | 0, hj => (simp at hj; subst hj; exact below_at hb hc)) (by simp; omega) (by intro v hv; simp at hv; subst hv; rfl) w.heap.size w hb (Nat.le_refl _))
  go_enter Try.func36, Try.ntmps36
  go_wp2_with (first
    | (go_at_call 42; refine (MU.out _).mono ?_; rintro e w' ⟨rfl, hw⟩; replace hw := hw.symm; subst hw)
    | (at_make; go_must (refine wpList_make_full _ rfl (.tmp 29) (.tmp 29) 25 rfl w.heap.size 2 i0 (.int .i64 0) 1 Try.underlying25 hi hz0 hz1 .i64 .i64 _ _ n rfl rfl rfl rfl hb2 hm (Nat.le_refl _) ?_); intro w1 hown hgrow; have hg1 := own_cells hown; rw [made_one _ _ rfl] at hg1; obtain ⟨w2, hrun, HG2, hB2⟩ := CP.out w1 (below_none hgrow) hg1; clear hown hgrow hg1))
  clear hrun
  rw [repL_one h1] at HG2
  go_loopw [8] (fun m wr => ∃ k : Nat, 1 ≤ k ∧ k ≤ n ∧ m = .int .i64 k ∧ Hid (wr.heap[w.heap.size]? = some (.cells (repL n k).toArray 2 (0, 0))) ∧ Below w.heap.size w wr) (fun m _ => n - (intOf m).toNat)
  case atStart => exact ⟨1, by omega, h1, by first | rfl | go_num, HG2, hB2⟩
  case round =>
    clear HG2 hB2
    obtain ⟨k, hk1, hk2, rfl, HG, hb⟩ := hrel
    by_cases hlt : k < n
    · obtain ⟨p, rfl⟩ : ∃ p, n = k + p := ⟨n - k, by omega⟩
      have hcell : ∀ j, j < k → wr.drew.cell? ⟨w.heap.size, 0 + j, none⟩ = some (.int .i64 (-1)) := fun j hj => by
        rw [Nat.zero_add]
        exact (cell_of_row wr w.heap.size j _ _ _ HG.out).trans (by rw [List.getElem?_toArray]; exact repL_at hj)
      obtain ⟨w2, hrun, HG2, hB2⟩ := copy_runR wr.drew w.heap.size k p p w.heap.size 0 k (k + p) (repL (k + p) k) (List.replicate (min k p) (.int .i64 (-1))) HG.out (by simp) (fun j v hj => by
        rw [List.getElem?_replicate] at hj
        split at hj
        · cases hj; exact hcell j (by omega)
        · cases hj) (by rw [repL_len (by omega)]; simp; omega) (by intro v hv; rw [List.mem_replicate] at hv; rw [hv.2]; rfl) w.heap.size w hb.drew (Nat.le_refl _)
      rw [repL_step hk1] at HG2
      simp only [List.length_replicate] at hrun
      have Hb := hd hb
      clear hcell hb
      go_wp2
      go_region
      clear hrun
      go_wp2
      go_roundw
      case rel => exact ⟨k + min k p, by omega, by omega, by push_cast; rfl, HG2, hB2⟩
      case measure => simp [intOf]; omega
    · have e : k = n := by omega
      subst e
      go_wp2
      go_ret
      exact ⟨_, rfl, by have h := HG.out; rw [repL_all] at h; exact cells_own h (by simp) (Nat.le_refl _) hm, hb⟩
theorem none_any (n : Nat) (h1 : 1 ≤ n) (h2 : n ≤ 24) (w : World) :
    Calls Try.prog 18 #[.int .i64 n] w (NewRow 2 1 n (List.replicate n (.int .i64 (-1))) w) := by
  go_enter Try.func18, Try.ntmps18
  go_wp2_with (go_at_call 36; refine (repeat_any n h1 h2 w.heap.size _ (by simp [go_sem])).mono ?_; rintro e w' ⟨u, rfl, ho, hb⟩)
  go_ret
  exact ⟨u, rfl, own_mono ho (by simp), below_tr hb (by go_grown)⟩
end Go.Proofs.Ytkaopdpdfbkchaa
