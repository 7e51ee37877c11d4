/- Plans of jobs: contracts. -/
import Derived.Test.YtjddlgmdbkaieaaJobC
import Derived.Deep.CutRange
namespace Go.Proofs.Ytjddlgmdbkaieaa
open Go.RowKit Plain
set_option linter.unusedVariables false
set_option linter.unusedSimpArgs false
attribute [local go_sem ↓] Go.wp_at_zero Go.wp_at_succ
/-- a slice of starts -/
structure BegsAt (w : World) (V : Value) (s : List Int) (n : Nat) : Prop where
  sl : Sl w 1 V n (s.map vi)
  len : s.length = n
  bd : ∀ k, k < n → 0 ≤ s.getD k 0 ∧ s.getD k 0 ≤ 1000000
theorem BegsAt.below {w w' : World} {V : Value} {s : List Int} {n : Nat} (h : BegsAt w V s n) (hb : Below w.heap.size w w') : BegsAt w' V s n := ⟨h.sl.below hb, h.len, h.bd⟩
/-- whether it is a plan -/
def PlanB (l : List Q4) (s : List Int) (n : Nat) (mk : Value → Value) (w : World) (r : Ending) (w' : World) : Prop := ∃ b : Bool, r = .returned (mk (.bool b)) ∧ (b = true ↔ planP l s n) ∧ Below w.heap.size w w'
set_option maxHeartbeats 4000000 in
theorem isJobPlan_any (U V : Value) (l : List Q4) (s : List Int) (n : Nat) (w : World) (hj : JobsAt w U l n) (h : BegsAt w V s n) :
    Calls Try.prog 29 #[U, V] w (PlanB l s n (fun v => v) w) := by
  have HS := hd h
  have HJ := hd hj
  have n1 := hj.n1
  have n24 := hj.n24
  obtain ⟨A, cap, rfl, hcap, hr⟩ := h.sl
  obtain ⟨B, capb, rfl, hcapb, hrb⟩ := hj.sl
  have HR := hd hr
  have HRB := hd hrb
  clear h hr hj hrb
  go_enter Try.func29, Try.ntmps29
  go_wp2
  go_loopw [10] (fun iv wr => ∃ (k : Nat), k ≤ n ∧ iv = .int .i64 k ∧ Hid (planP l s k) ∧ Hid (Below w.heap.size w wr)) (fun iv _ => n - (intOf iv).toNat)
  case atStart => exact ⟨0, by omega, rfl, hd (fun i hi => by omega), hd (Below.refl _ _)⟩
  case round =>
    obtain ⟨k, hk, rfl, HP, HB⟩ := hrel
    by_cases hlt : k < n
    · obtain ⟨b, off, rfl, hc⟩ := (HR.out.below HB.out).int hlt
      obtain ⟨b2, off2, qa, qb, qc, qd, rfl, hq, c0, c1, c2, c3⟩ := (HRB.out.below HB.out).q4 hlt
      obtain ⟨⟨a0, a1⟩, ⟨b0, b1⟩, _⟩ := HJ.out.at hq.out
      simp only at a0 a1 b0 b1
      have hsk := HS.out.bd k hlt
      have hk2 : (k : Int) < (n : Int) := Int.ofNat_lt.2 hlt
      have HA := hd (jobAt_at hq.out)
      go_upto_region 4 with fail
      have HBW := hd (HB.out.alloc HB.out.size (.cells #[.int .i64 qa, .int .i64 qb, .int .i64 qc, .int .i64 qd] 41))
      have hcw := below_at ((Below.refl _ wr).alloc (Nat.le_refl _) (.cells #[.int .i64 qa, .int .i64 qb, .int .i64 qc, .int .i64 qd] 41)) hc
      have kb : (wr.alloc (.cells #[.int .i64 qa, .int .i64 qb, .int .i64 qc, .int .i64 qd] 41)).cell? ⟨wr.heap.size, 1, none⟩ = some (.int .i64 qb) := (World.cell?_alloc_new ..).trans rfl
      have ka : (wr.alloc (.cells #[.int .i64 qa, .int .i64 qb, .int .i64 qc, .int .i64 qd] 41)).cell? ⟨wr.heap.size, 0, none⟩ = some (.int .i64 qa) := (World.cell?_alloc_new ..).trans rfl
      have hgs : wr.heap.size < (wr.alloc (.cells #[.int .i64 qa, .int .i64 qb, .int .i64 qc, .int .i64 qd] 41)).heap.size := by simp
      generalize World.alloc wr (.cells #[.int .i64 qa, .int .i64 qb, .int .i64 qc, .int .i64 qd] 41) = W at *
      generalize wr.heap.size = G at *
      clear hc c0 c1 c2 c3 HB
      by_cases hrel' : s.getD k 0 < qb
      · have E := hd (show ¬ planP l s n from fun hp => by have := (hp k hlt).1; rw [HA.out] at this; simp only at this; omega)
        generalize s.getD k 0 = sk at *
        clear ka
        go_quiet (fail)
        go_wp2
        go_ret
        exact ⟨false, rfl, ⟨(fun h => by cases h), fun h => absurd h E.out⟩, below_drewN HBW.out _⟩
      · have HK := hd (show (jobAt l k).b ≤ s.getD k 0 by rw [HA.out]; simp only; omega)
        have hsk0 := hsk
        generalize hsv : s.getD k 0 = sk at *
        have HSV := hd hsv
        clear hsv
        go_quiet (fail)
        obtain ⟨W1, hW1⟩ : ∃ W1, W1 = W.drewN nq := ⟨_, rfl⟩
        have HB1 := hd (show Below w.heap.size w W1 by rw [hW1]; exact below_drewN HBW.out _)
        have ka1 : W1.cell? ⟨G, 0, none⟩ = some (.int .i64 qa) := by rw [hW1]; exact ka
        have hc1 : W1.cell? ⟨b, off + k, none⟩ = some (.int .i64 sk) := by rw [hW1]; exact hcw
        have hg1 : G < W1.heap.size := by rw [hW1]; exact hgs
        rw [← hW1]
        clear hW1 kb ka hcw HBW hgs
        have HQ1 := hd ka1
        have HC1 := hd hc1
        clear ka1 hc1
        go_wp2
        go_loopw [23] (fun iv wr => ∃ (m : Nat), m ≤ k ∧ iv = .int .i64 m ∧ Hid (∀ j, j < m → ¬ (sk < s.getD j 0 + (jobAt l j).a ∧ s.getD j 0 < sk + qa)) ∧ Hid (Below W1.heap.size W1 wr)) (fun iv _ => k - (intOf iv).toNat)
        case atStart => exact ⟨0, by omega, rfl, hd (fun j hj => by omega), hd (Below.refl _ _)⟩
        case round =>
          obtain ⟨m, hm, rfl, HM, HB2⟩ := hrel
          by_cases hmk : m < k
          · have hmn : m < n := by omega
            obtain ⟨_, _, e1, hc⟩ := (HR.out.below (below_tr HB2.out HB1.out)).int hmn
            cases e1
            obtain ⟨_, _, ra, rb, rc, rd, e2, hq3, c0, c1, c2, c3⟩ := (HRB.out.below (below_tr HB2.out HB1.out)).q4 hmn
            cases e2
            obtain ⟨⟨ra0, ra1⟩, _⟩ := HJ.out.at hq3.out
            simp only at ra0 ra1
            have hsm := HS.out.bd m hmn
            have ka := below_at HB2.out HQ1.out
            have hck := below_at HB2.out HC1.out
            have hm2 : (m : Int) < (k : Int) := Int.ofNat_lt.2 hmk
            have hm3 : (m : Int) < (n : Int) := Int.ofNat_lt.2 hmn
            have HA3 := hd (jobAt_at hq3.out)
            have w1 : IntKind.i64.wrap (s.getD m 0 + ra) = s.getD m 0 + ra := IntWalk.i64_in _ (by omega)
            have w2 : IntKind.i64.wrap (sk + qa) = sk + qa := IntWalk.i64_in _ (by omega)
            have HSM := hd (show ∀ z, z = s.getD m 0 → (planP l s n → ¬ (sk < z + ra ∧ z < sk + qa)) from fun z hz hp h2 => by
              have := (hp k hlt).2 m hmk
              rw [HA.out, HA3.out, HSV.out, ← hz] at this
              exact this h2)
            have HSX := hd (show ∀ z, z = s.getD m 0 → ¬ (sk < z + ra ∧ z < sk + qa) → (∀ j, j < m + 1 → ¬ (sk < s.getD j 0 + (jobAt l j).a ∧ s.getD j 0 < sk + qa)) from fun z hz h2 j hj => by
              by_cases ej : j = m
              · subst ej; rw [HA3.out, ← hz]; exact h2
              · exact HM.out j (by omega))
            obtain ⟨z, hz⟩ : ∃ z, z = s.getD m 0 := ⟨_, rfl⟩
            have HSM := hd (HSM.out z hz)
            have HSX := hd (HSX.out z hz)
            rw [← hz] at hc w1 hsm
            clear hz c1 c2 c3 hq3
            cases h1 : decide (sk < z + ra) with
            | false =>
              have HX := hd (HSX.out (fun h => by simp at h1; omega))
              have h1' : ¬ sk < z + ra := by simpa using h1
              clear HSM HSX
              go_wp2
              go_quiet (fail)
              clear w1 w2 hc ka hck c0
              go_wp2
              go_roundw
              case rel => exact ⟨m + 1, by omega, by go_num, HX, hd (below_drewN HB2.out _)⟩
              case measure => simp [intOf]; omega
            | true =>
              have h1' : sk < z + ra := by simpa using h1
              cases h2 : decide (z < sk + qa) with
              | false =>
                have HX := hd (HSX.out (fun h => by simp at h2; omega))
                have h2' : ¬ z < sk + qa := by simpa using h2
                clear HSM HSX
                go_wp2
                go_quiet (fail)
                clear w1 w2 hc ka hck c0
                go_wp2
                go_roundw
                case rel => exact ⟨m + 1, by omega, by go_num, HX, hd (below_drewN HB2.out _)⟩
                case measure => simp [intOf]; omega
              | true =>
                have h2' : z < sk + qa := by simpa using h2
                have E := hd (show ¬ planP l s n from fun hp => HSM.out hp ⟨h1', h2'⟩)
                clear HSM HSX
                go_wp2
                go_quiet (fail)
                go_wp2
                go_ret
                exact ⟨false, rfl, ⟨(fun h => by cases h), fun h => absurd h E.out⟩, below_drewN (below_tr HB2.out HB1.out) _⟩
          · obtain rfl : m = k := by omega
            have HP2 := hd (show planP l s (m + 1) from fun i hi => by
              by_cases ei : i = m
              · subst ei
                refine ⟨by rw [HSV.out]; exact HK.out, fun j hj => ?_⟩
                rw [HSV.out, HA.out]; exact HM.out j hj
              · exact HP.out i (by omega))
            go_wp2
            go_roundw
            case rel => exact ⟨m + 1, by omega, by go_num, HP2, hd (below_tr HB2.out HB1.out)⟩
            case measure => simp [intOf]; omega
    · obtain rfl : k = n := by omega
      go_wp2
      go_ret
      exact ⟨true, rfl, ⟨fun _ => HP.out, fun _ => rfl⟩, HB.out⟩
set_option maxHeartbeats 1000000 in
theorem areStarts_any (V : Value) (s : List Int) (n : Nat) (w : World) (h : BegsAt w V s n) : Calls Try.prog 28 #[V, .int .i64 n] w fun r w' => r = .returned (.bool true) ∧ w' = w := by
  have HM := hd (areMany_any V s n n 0 1000000 w (by rw [h.len]; exact h.sl))
  have HY := hd (show manyIn s n n 0 1000000 = true by
    have h1 : s.all (inR · 0 1000000) = true := List.all_eq_true.2 fun x hx => by
      obtain ⟨k, hk, rfl⟩ := List.mem_iff_getElem.1 hx
      have := h.bd k (by rw [← h.len]; exact hk)
      rw [List.getD_eq_getElem?_getD, List.getElem?_eq_getElem hk] at this
      exact inR_iff.2 this
    simp [manyIn, h.len]
    exact List.all_eq_true.1 h1)
  rw [HY.out] at HM
  clear h HY
  go_enter Try.func28, Try.ntmps28
  go_wp2_with (go_at_call 43; refine HM.out.mono ?_; rintro e w' ⟨rfl, hw⟩; subst hw)
  go_ret
  exact ⟨rfl, rfl⟩
set_option maxHeartbeats 1000000 in
theorem IsJobPlan_any (U V : Value) (l : List Q4) (s : List Int) (n : Nat) (w : World) (hj : JobsAt w U l n) (h : BegsAt w V s n) :
    Calls Try.prog 14 #[U, V] w (PlanB l s n (fun v => .tuple #[v, .bool true]) w) := by
  have HI := hd (AreJobs_any U l n w hj)
  have HS := hd (fun w' (hb : Below w.heap.size w w') => areStarts_any V s n w' (h.below hb))
  have HP := hd (fun w' (hb : Below w.heap.size w w') => isJobPlan_any U V l s n w' (hj.below hb) (h.below hb))
  obtain ⟨A, cap, rfl, _, _⟩ := hj.sl
  clear h hj
  go_enter Try.func14, Try.ntmps14
  go_wp2_with (first
    | (go_at_call 20; refine HI.out.mono ?_; rintro e w1 ⟨rfl, hb1⟩)
    | (go_at_call 28; refine (HS.out _ hb1).mono ?_; rintro e w' ⟨rfl, hw⟩; subst hw)
    | (go_at_call 29; refine (HP.out _ hb1).mono ?_; rintro e w2 ⟨b, rfl, hb, hb2⟩))
  go_ret2
  exact ⟨b, rfl, hb, below_tr hb2 hb1⟩
theorem topS_bd {l : List Q4} (h : ∀ q ∈ l, jobOk q) {s : List Int} {n : Nat} (hs : ∀ k, k < n → 0 ≤ s.getD k 0 ∧ s.getD k 0 ≤ 1000000) (k : Nat) (hk : k ≤ n) : 0 ≤ topS l s k ∧ topS l s k ≤ 1010000 := by
  induction k with
  | zero => simp [topS]
  | succ k ih =>
    have a := ih (by omega)
    have b := hs k (by omega)
    have c := jobAt_ok h k
    rw [jobOk] at c
    rw [topS]; omega
theorem sumA_bd {l : List Q4} (h : ∀ q ∈ l, jobOk q) (k : Nat) : 0 ≤ sumN (fun i => (jobAt l i).a) k ∧ sumN (fun i => (jobAt l i).a) k ≤ 10000 * (k : Int) :=
  sumN_bd (fun i _ => by have := jobAt_ok h i; rw [jobOk] at this; omega)
set_option maxHeartbeats 2000000 in
theorem IdleOf_any (U V : Value) (l : List Q4) (s : List Int) (n : Nat) (w : World) (hj : JobsAt w U l n) (h : BegsAt w V s n) (hp : planP l s n) :
    Calls Try.prog 15 #[U, V] w fun r w' => r = .returned (.tuple #[.int .i64 (topS l s n - sumN (fun i => (jobAt l i).a) n), .bool true]) ∧ Below w.heap.size w w' := by
  have HS := hd h
  have HJ := hd hj
  have n1 := hj.n1
  have n24 := hj.n24
  have HI := hd (IsJobPlan_any U V l s n w hj h)
  have HP := hd hp
  have TB := hd (fun k hk => topS_bd hj.ok h.bd k hk)
  have SB := hd (fun k => sumA_bd hj.ok k)
  obtain ⟨A, cap, rfl, hcap, hr⟩ := h.sl
  obtain ⟨B, capb, rfl, hcapb, hrb⟩ := hj.sl
  have HR := hd hr
  have HRB := hd hrb
  clear h hr hj hrb hp
  go_enter Try.func15, Try.ntmps15
  go_wp2_with fail
  go_at_call 14
  refine HI.out.mono ?_
  rintro e w1 ⟨b, rfl, hb, hb1⟩
  obtain rfl : b = true := hb.2 HP.out
  have HB1 := hd hb1
  clear hb hb1 HP HI
  go_wp2
  go_loopw [8, 9, 26] (fun tv sv iv wr => ∃ (k : Nat), k ≤ n ∧ iv = .int .i64 k ∧ tv = .int .i64 (topS l s k) ∧ sv = .int .i64 (sumN (fun i => (jobAt l i).a) k) ∧ Hid (Below w.heap.size w wr)) (fun _ _ iv _ => n - (intOf iv).toNat)
  case atStart => exact ⟨0, by omega, rfl, rfl, rfl, HB1⟩
  case round =>
    clear HB1
    obtain ⟨k, hk, rfl, rfl, rfl, HB⟩ := hrel
    have tb := TB.out k hk
    have sb := SB.out k
    by_cases hlt : k < n
    · obtain ⟨b, off, rfl, hc⟩ := (HR.out.below HB.out).int hlt
      obtain ⟨b2, off2, qa, qb, qc, qd, rfl, hq, c0, c1, c2, c3⟩ := (HRB.out.below HB.out).q4 hlt
      obtain ⟨⟨a0, a1⟩, _⟩ := HJ.out.at hq.out
      simp only at a0 a1
      have hsk := HS.out.bd k hlt
      have hk2 : (k : Int) < (n : Int) := Int.ofNat_lt.2 hlt
      have HT := hd (show topS l s (k + 1) = if topS l s k < s.getD k 0 + qa then s.getD k 0 + qa else topS l s k by rw [topS, jobAt_at hq.out, max_if])
      have HU := hd (show sumN (fun i => (jobAt l i).a) (k + 1) = sumN (fun i => (jobAt l i).a) k + qa by rw [sumN, jobAt_at hq.out])
      generalize topS l s k = x at *
      generalize sumN (fun i => (jobAt l i).a) k = y at *
      generalize s.getD k 0 = sk at *
      have hw1 : IntKind.i64.wrap (sk + qa) = sk + qa := IntWalk.i64_in _ (by omega)
      have hw2 : IntKind.i64.wrap (y + qa) = y + qa := IntWalk.i64_in _ (by omega)
      go_upto_region 8 with fail
      have HBW := hd (HB.out.alloc HB.out.size (.cells #[.int .i64 qa, .int .i64 qb, .int .i64 qc, .int .i64 qd] 41))
      have hcw := below_at ((Below.refl _ wr).alloc (Nat.le_refl _) (.cells #[.int .i64 qa, .int .i64 qb, .int .i64 qc, .int .i64 qd] 41)) hc
      have ka : (wr.alloc (.cells #[.int .i64 qa, .int .i64 qb, .int .i64 qc, .int .i64 qd] 41)).cell? ⟨wr.heap.size, 0, none⟩ = some (.int .i64 qa) := (World.cell?_alloc_new ..).trans rfl
      generalize World.alloc wr (.cells #[.int .i64 qa, .int .i64 qb, .int .i64 qc, .int .i64 qd] 41) = W at *
      generalize wr.heap.size = G at *
      clear hc c0 c1 c2 c3 HB
      go_quiet (fail)
      clear hcw
      go_wp2
      go_roundw
      case rel => exact ⟨k + 1, by omega, by go_num, by rw [HT.out], by rw [HU.out], hd (below_drewN HBW.out _)⟩
      case measure => simp [intOf]; omega
    · obtain rfl : k = n := by omega
      have hw : IntKind.i64.wrap (topS l s k - sumN (fun i => (jobAt l i).a) k) = topS l s k - sumN (fun i => (jobAt l i).a) k := IntWalk.i64_in _ (by omega)
      go_wp2
      go_ret2
      exact ⟨rfl, HB.out⟩
end Go.Proofs.Ytjddlgmdbkaieaa
