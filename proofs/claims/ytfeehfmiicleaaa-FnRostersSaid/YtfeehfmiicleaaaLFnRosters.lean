/- Whatever bytes choose the pattern, the people, the days, who is away, the skills and the tasks, the program's rosters, calls and matchings are as the law says: it returns true. No condition. -/
import Derived.Test.YtfeehfmiicleaaaRows
import Derived.Test.YtfeehfmiicleaaaR8I
import Derived.Test.YtfeehfmiicleaaaRostG
import Derived.Test.YtfeehfmiicleaaaRostR
import Derived.Test.YtfeehfmiicleaaaMatO
import Derived.Test.YtfeehfmiicleaaaApp
import Derived.Deep.CutRange
import Derived.Deep.RegionHeld3
import Derived.Test.YtfeehfmiicleaaaOpen
import Derived.Test.YtfeehfmiicleaaaOpen2
namespace Go.Proofs.Ytfeehfmiicleaaa.lFnRosters
open Go.ChangeShapes Go.WideShapes Go.ChangeAt Go.RowKit Go.Proofs.Ytfeehfmiicleaaa Plain
set_option linter.unusedVariables false
set_option linter.unusedSimpArgs false
attribute [local go_sem ↓] Go.wp_at_zero Go.wp_at_succ

theorem rotate_any (w : World) (pat : ByteArray) (n p d t : Nat) (h : PatOk pat n) (n1 : 1 ≤ n) (n2 : n ≤ 64) (p1 : 1 ≤ p) (p2 : p ≤ 12) (d1 : 1 ≤ d) (d2 : d ≤ 128) (t2 : t ≤ 64) :
    Calls Try.prog 6 #[.string pat, .int .i64 p, .int .i64 d, .int .i64 t] w (OutL 9 1 p (strs (RotI.listR pat t d p)) (fun u => .tuple #[u, .bool true]) w) := by
  have hk : RotI.okR pat p d t = true := by
    simp only [RotI.okR, Bool.and_eq_true]
    exact ⟨pat_B h n1 64 (by omega), inR_iff.2 ⟨by omega, by omega⟩, inR_iff.2 ⟨by omega, by omega⟩, inR_iff.2 ⟨by omega, by omega⟩⟩
  have h2 := RotI.impl_any w pat (by rw [h.1]; unfold maxLen; omega) p ⟨by omega, by omega⟩ d ⟨by omega, by omega⟩ t ⟨by omega, by omega⟩
  rw [RotI.M_yes hk] at h2
  simp only [Int.toNat_natCast] at h2
  have e : (RotI.listR pat t d p).length = p := by simp [RotI.listR]
  rw [e] at h2
  exact h2

set_option maxHeartbeats 60000000 in
set_option maxRecDepth 100000 in
theorem walk (w : World) (v0 : Value) (x0 : List Nat) (i0 : ∀ x ∈ x0, x < 256) (s0 : Sl w 1 v0 x0.length (bys x0)) (v1 : Value) (x1 : List Nat) (i1 : ∀ x ∈ x1, x < 256) (s1 : Sl w 1 v1 x1.length (bys x1)) :
    Calls Try.prog 3 #[v0, v1] w fun e w' => e = .returned (.bool true) ∧ Below w.heap.size w w' := by
  have L := hd (r8Long_any v0 v1 x0 x1 w s0 s1)
  have AC := hd (fun w' (h : Below w.heap.size w w') k n hn hn2 hk => r8At_any v0 x0 i0 k n hn hn2 hk w' (s0.below h))
  have AM := hd (fun w' (h : Below w.heap.size w w') k n hn hn2 hk => r8At_any v1 x1 i1 k n hn hn2 hk w' (s1.below h))
  have RC := hd (fun w' (h : Below w.heap.size w w') n m n1 m1 m2 => R8Below_any v0 x0 i0 w' (s0.below h) n m n1 m1 m2)
  have RM := hd (fun w' (h : Below w.heap.size w w') n m n1 m1 m2 => R8Below_any v1 x1 i1 w' (s1.below h) n m n1 m1 m2)
  clear s0 s1 i0 i1
  generalize (decide (48 < x0.length) || decide (48 < x1.length)) = tooLong at *
  go_enter Try.func3, Try.ntmps3
  go_wp2_with fail
  refine L.out.mono ?_; rintro e w' ⟨rfl, hw⟩; replace hw := hw.symm; subst hw
  cases tooLong with
  | true =>
    go_wp2
    go_ret
    exact ⟨rfl, Below.refl _ _⟩
  | false =>
  clear L
  go_wp2
  have hN := r8F_lt x1 40 (n := 8) (by omega)
  have A40 := hd (fun w' h => AM.out w' h 40 8 (by omega) (by omega) (by omega))
  generalize r8F x1 40 8 = N0 at *
  go_loopw [5, 6] (fun S i wr => ∃ (k : Nat) (pat : ByteArray), k ≤ 1 + N0 ∧ i = .int .i64 k ∧ S = .string pat ∧ Hid (PatOk pat k) ∧ Below w.heap.size w wr) (fun _ i _ => 1 + N0 - (intOf i).toNat)
  case atStart => exact ⟨0, ByteArray.empty, by omega, rfl, rfl, hd pat_start, Below.refl _ _⟩
  case round =>
    obtain ⟨k, pat, hk, rfl, rfl, HP, hB⟩ := hrel
    have HB := hd hB
    clear hB
    go_wp2_with fail
    refine (A40.out wr HB.out).mono ?_; rintro e w' ⟨rfl, hw⟩; replace hw := hw.symm; subst hw
    have hsz := HP.out.1
    by_cases hlt : k < 1 + N0
    ·
      --<
      as_aux_lemma =>
        have hlt2 : (k : Int) < 1 + (N0 : Int) := by omega
        go_wp2_with fail
        refine (AC.out _ (HB.out.alloc HB.out.size _) k 3 (by omega) (by omega) (by omega)).mono ?_; rintro e w' ⟨rfl, hw⟩; replace hw := hw.symm; subst hw
        have hq := r8F_lt x0 k (n := 3) (by omega)
        have hpl : pat.size ≤ 100 := by omega
        generalize r8F x0 k 3 = q at *
        have hq3 : q = 0 ∨ q = 1 ∨ q = 2 := by omega
        rcases hq3 with rfl | rfl | rfl
        all_goals
          go_wp2
          go_roundw
          case rel => exact ⟨k + 1, _, by omega, by go_num, rfl, hd (pat_step HP.out (by decide)), HB.out.alloc HB.out.size _⟩
          case measure => simp [intOf]; omega
      -->
    · have e : k = 1 + N0 := by omega
      have hlt2 : ¬ ((k : Int) < 1 + (N0 : Int)) := by omega
      have k1 : 1 ≤ k := by omega
      have k8 : k ≤ 8 := by omega
      clear A40 hlt hk
      go_wp2_with fail
      clear e hlt2
      refine (AM.out wr HB.out 41 5 (by omega) (by omega) (by omega)).mono ?_; rintro e w' ⟨rfl, hw⟩; replace hw := hw.symm; subst hw
      have hP := r8F_lt x1 41 (n := 5) (by omega)
      generalize r8F x1 41 5 = P0 at *
      go_wp2_with fail
      refine (AM.out wr HB.out 42 20 (by omega) (by omega) (by omega)).mono ?_; rintro e w' ⟨rfl, hw⟩; replace hw := hw.symm; subst hw
      have hD := r8F_lt x1 42 (n := 20) (by omega)
      generalize r8F x1 42 20 = D0 at *
      go_wp2_with fail
      refine (AM.out wr HB.out 43 6 (by omega) (by omega) (by omega)).mono ?_; rintro e w' ⟨rfl, hw⟩; replace hw := hw.symm; subst hw
      have hS := r8F_lt x1 43 (n := 6) (by omega)
      generalize r8F x1 43 6 = S at *
      obtain ⟨P, hPe⟩ : ∃ n : Nat, (n : Int) = 1 + (P0 : Int) := ⟨1 + P0, by push_cast; rfl⟩
      obtain ⟨D, hDe⟩ : ∃ n : Nat, (n : Int) = 1 + (D0 : Int) := ⟨1 + D0, by push_cast; rfl⟩
      have p1 : 1 ≤ P := by omega
      have p5 : P ≤ 5 := by omega
      have d1 : 1 ≤ D := by omega
      have d20 : D ≤ 20 := by omega
      go_wp2_with fail
      rw [← hPe, ← hDe]
      clear hPe hDe hP hD hN
      refine (rotate_any wr pat k P D S HP.out k1 (by omega) p1 (by omega) d1 (by omega) (by omega)).mono ?_
      rintro e W2 ⟨u, rfl, hor, hb⟩
      have HB2 := hd (below_tr hb HB.out)
      obtain ⟨Ar, capr, rfl, hcapr, hrr⟩ := own_sl hor (size_le (show P ≤ 1048576 by omega))
      have HR := hd (show Sl W2 1 (.slice Ar P capr) P (strs (RotI.listR pat S D P)) from ⟨_, _, rfl, hcapr, hrr⟩)
      clear hb hor hrr HB
      go_wp2
      go_loopw [13] (fun i wr' => ∃ i0 m : Nat, i0 ≤ P ∧ i = .int .i64 i0 ∧ wr' = W2.drewN m) (fun i _ => P - (intOf i).toNat)
      case atStart => exact ⟨0, 0, by omega, rfl, rfl⟩
      case round =>
        obtain ⟨i0, m0, hi0, rfl, hw⟩ := hrel
        subst hw
        by_cases hlt : i0 < P
        ·
          --<
          as_aux_lemma =>
            obtain ⟨_, _, e, _, hrr⟩ := id HR.out
            cases e
            obtain ⟨br, orr, t, rfl, Ht, hct⟩ := hrr.str hlt
            have htx : t = RotI.textR pat (i0 * S) D := by
              have := list_at (s := pat) (st := S) (dn := D) hlt
              rw [Ht.out] at this
              exact Option.some.inj this
            have hts : t.size = D := by rw [htx]; exact RotI.text_size _ _ _
            have HT := hd htx
            clear hrr htx Ht
            go_wp2
            go_loopw [14] (fun j wr' => ∃ j0 m : Nat, j0 ≤ D ∧ j = .int .i64 j0 ∧ wr' = W2.drewN m) (fun j _ => D - (intOf j).toNat)
            case atStart => exact ⟨0, m0, by omega, rfl, rfl⟩
            case round =>
              obtain ⟨j0, m1, hj0, rfl, hw⟩ := hrel
              subst hw
              by_cases hlt2 : j0 < D
              · have HJ := hd (show j0 + 1 ≤ D by omega)
                have HM := hd (show D - (j0 + 1) < D - j0 by omega)
                have HW := hd (show (j0 : Int) + 1 = ((j0 + 1 : Nat) : Int) by push_cast; rfl)
                have HW2 := hd (show ((j0 : Int) + 1).toNat = j0 + 1 by omega)
                have hjt : j0 < t.size := by omega
                obtain ⟨q, hq⟩ : ∃ q, q = i0 * S := ⟨_, rfl⟩
                have hq2 : q ≤ 25 := by rw [hq]; exact Nat.le_trans (Nat.mul_le_mul (show i0 ≤ 5 by omega) (show S ≤ 5 by omega)) (by decide)
                have hqI : (i0 : Int) * (S : Int) = (q : Int) := by rw [hq]; push_cast; rfl
                obtain ⟨mm, hmm⟩ : ∃ mm, mm = (j0 + q) % k := ⟨_, rfl⟩
                have hmk : mm < pat.size := by rw [hmm, hsz]; exact Nat.mod_lt _ k1
                have hQ : ((j0 : Int) + (q : Int)).tmod (k : Int) = (mm : Int) := by
                  rw [Int.tmod_eq_emod_of_nonneg (by omega), hmm]
                  push_cast; rfl
                have hk0 : ¬ ((k : Int) = 0) := by omega
                have hlet : (t[j0].toNat : Int) = (pat[mm].toNat : Int) := by
                  have h := HT.out
                  subst h
                  subst hmm
                  subst hq
                  exact text_letter HP.out k1 (i0 * S) D j0 hlt2 hjt hmk
                have hw1 : IntKind.i64.wrap (q : Int) = (q : Int) := IntWalk.i64_in _ (by omega)
                have hw2 : IntKind.i64.wrap ((j0 : Int) + (q : Int)) = (j0 : Int) + (q : Int) := IntWalk.i64_in _ (by omega)
                have hw3 : IntKind.i64.wrap (mm : Int) = (mm : Int) := IntWalk.i64_in _ (by omega)
                have hk9 : ((k : Int) == 0) = false := by simp; omega
                have hkz : ¬ k = 0 := by omega
                have hkk : (k == 0) = false := by simp; omega
                have hrem : ∀ w, (binOp .rem 2 (.int .i64 ((j0 : Int) + (q : Int))) (.int .i64 (k : Int))).run Try.prog w = .ok (.int .i64 (mm : Int)) w := fun w => by
                  simp [binOp, Op.intDiv, hkz, hQ, Sem.run]
                have hw4 : wrap64 ((j0 : Int) + (q : Int)) = (j0 : Int) + (q : Int) := by unfold wrap64; omega
                have hmk2 : mm < k := by omega
                have hmk3 : (mm : Int) < (k : Int) := by omega
                have hmk4 : ¬ k ≤ mm := by omega
                clear HT hq hmm
                go_wp2
                go_quiet (fail)
                clear hrem hw1 hw2 hw3 hw4 hQ hqI hk9 hkk hkz hk0 hmk2 hmk4
                go_wp2
                go_roundw
                case rel => exact ⟨j0 + 1, _, HJ.out, by go_num, rfl⟩
                case measure => simp [intOf]; omega
              · go_wp2
                go_roundw
                case rel => exact ⟨i0 + 1, m1, by omega, by go_num, rfl⟩
                case measure => simp [intOf]; omega
          -->
        · have e : P = i0 := by omega
          subst e
          clear hlt hi0
          obtain ⟨_, _, e, _, hrr⟩ := id HR.out
          cases e
          obtain ⟨br, orr, t, rfl, Ht, hct⟩ := hrr.str (show 0 < P by omega)
          have htx : t = RotI.textR pat (0 * S) D := by
            have := list_at (s := pat) (st := S) (dn := D) (show 0 < P by omega)
            rw [Ht.out] at this
            exact Option.some.inj this
          have hTP : PatOk t D := htx ▸ text_pat HP.out k1 _ _
          obtain ⟨ra, rb, rc, re, m1, m2, f1, f2, f3, f4, f5, f6, f7⟩ := runs_twice hTP d1 (by omega)
          have RR1 := RunR.impl_any (W2.drewN m0) t (by rw [hTP.1]; unfold maxLen; omega)
          rw [m1] at RR1
          have RR1 := hd RR1
          have RR2 := hd (fun w' => (by have h := RunR.impl_any w' (t ++ t) (by rw [ByteArray.size_append, hTP.1]; unfold maxLen; omega); rw [m2] at h; exact h : Calls Try.prog 7 #[.string (t ++ t)] w' fun r w2 => r = .returned (.tuple #[.int .i64 rc, .int .i64 re, .bool true]) ∧ Below w'.heap.size w' w2))
          have ht20 : t.size ≤ 20 := by rw [hTP.1]; exact d20
          rw [Nat.add_zero] at hct
          clear m1 m2 hrr htx Ht hTP HP hsz HR
          go_upto_region 26 with (go_at_call 7; refine RR1.out.mono ?_; rintro e W3 ⟨rfl, hb⟩)
          have hct3 := below_at hb (show (W2.drewN m0).cell? _ = _ from hct)
          have HB3 := hd (below_tr hb (below_drewN HB2.out m0))
          clear hb RR1 hct HB2
          have hp0 : 0 < P := p1
          have hp0i : (0 : Int) < (P : Int) := by omega
          have hpz : ¬ P = 0 := by omega
          have hts9 : ¬ 9223372036854775807 < t.size + t.size := by omega
          go_region_held3 (fun w' => w'.cell? ⟨br, orr, none⟩ = some (.string t) ∧ Below W3.heap.size W3 w')
            (first | exact hkk | (refine ⟨?_, below_drewN (Below.refl _ _) _⟩ <;> go_keep) | go_keep)
            (first | (go_at_call 7; refine (RR2.out _).mono ?_; rintro e w' ⟨rfl, hb⟩; have hkk : w'.cell? ⟨br, orr, none⟩ = some (.string t) ∧ Below W3.heap.size W3 w' := ⟨below_at hb (‹_ ∧ Below W3.heap.size W3 _›).1, below_tr hb (‹_ ∧ Below W3.heap.size W3 _›).2⟩))
          rename _ ∧ Below W3.heap.size W3 _ => hb
          replace hb := hb.2
          have HB4 := hd (below_tr hb HB3.out)
          clear hb HB3 hct3 RR2 hp0 hp0i hpz hts9
          go_wp2_with (at_make; go_must (refine wpList_make_int _ rfl _ rfl _ _ D rfl rfl (by omega) ?_); intro W5 ho5 hb5; have HB5 := hd (below_tr hb5 HB4.out); have HO5 := hd (show Sl W5 1 _ D ((List.replicate D (0 : Int)).map vi) by have h := own_sl ho5 (size_le (by omega)); simpa [vi, List.map_replicate] using h); clear ho5 hb5 HB4)
          refine (even_any P D p1 (by omega) d1 (by omega) _ W5 HO5.out).mono ?_
          rintro e W6 ⟨out, u, rfl, hol, hin, hdiff, ⟨gap, hg, hg1⟩, hor, hb⟩
          have HB6 := hd (below_tr hb HB5.out)
          obtain ⟨A6, cap6, rfl, hcap6, hr6⟩ := own_sl hor (size_le (show D ≤ 1048576 by omega))
          have HS6 := hd (show Sl W6 1 (.slice A6 D cap6) D (out.map vi) from ⟨_, _, rfl, hcap6, hr6⟩)
          have HD6 := hd hdiff
          have GP := GapI.impl_any W6 _ out (fun x hx => by have := hin x hx; exact ⟨by omega, by omega⟩) (by omega) (by rw [hol]; exact HS6.out) P ⟨by omega, by omega⟩
          rw [hg] at GP
          have GP := hd GP
          clear hb hor hr6 hol hin hg hdiff HB5 HO5
          go_wp2_with fail
          refine GP.out.mono ?_; rintro e W7 ⟨rfl, hb⟩
          have HB7 := hd (below_tr hb HB6.out)
          have HS7 := hd (HS6.out.below hb)
          clear hb HB6 HS6 GP
          have fw : wrap64 (ra + rb) = ra + rb := by unfold wrap64; omega
          go_upto_region 29 with fail
          go_cut [204] from 152 to 204 (fun c wx => c = .bool false ∧ wx = W7)
          case first =>
            --<
            as_aux_lemma =>
              have z1 : decide (ra < 0) = false := decide_eq_false (by omega)
              have z2 : decide (rb < 0) = false := decide_eq_false (by omega)
              have z3 : decide (ra + rb < 1) = false := decide_eq_false (by omega)
              have z4 : decide ((D : Int) < ra) = false := decide_eq_false (by omega)
              have z5 : decide (rc < ra) = false := decide_eq_false (by omega)
              have z6 : decide (re < rb) = false := decide_eq_false (by omega)
              have z7 : decide (1 < gap) = false := decide_eq_false (by omega)
              go_wp2
              go_meet
              refine ⟨?_, rfl⟩
              first | rfl | (rw [z1, z2, z3, z4, z5, z6, z7]; rfl)
            -->
          case rest =>
          obtain ⟨rfl, hw⟩ := hcut
          replace hw := hw.symm; subst hw
          clear fw f1 f2 f3 f4 f5 f6 f7 hg1 ht20
          go_wp2
          go_loopw [25] (fun i wr => ∃ k' m : Nat, 1 ≤ k' ∧ k' ≤ D ∧ i = .int .i64 k' ∧ wr = W7.drewN m) (fun i _ => D - (intOf i).toNat)
          case atStart => exact ⟨1, 0, by omega, by omega, rfl, rfl⟩
          case round =>
            obtain ⟨k', m', hk1, hk2, rfl, hw⟩ := hrel
            subst hw
            by_cases hlt : k' < D
            ·
              --<
              as_aux_lemma =>
                obtain ⟨_, _, e, _, hr7⟩ := id HS7.out
                cases e
                obtain ⟨b7, o7, rfl, hc1⟩ := hr7.int hlt
                obtain ⟨_, _, e, hc2⟩ := hr7.int (show k' - 1 < D by omega)
                cases e
                have hz : (k' : Int) - 1 = ((k' - 1 : Nat) : Int) := by omega
                have hne := HD6.out
                rcases Nat.lt_or_ge 1 P with hp | hp
                · have hne := hne hp k' hk1 hlt
                  generalize out.getD k' 0 = x at *
                  generalize out.getD (k' - 1) 0 = y at *
                  clear hr7
                  have hp1 : (1 : Int) < (P : Int) := by omega
                  have hpd : decide ((1 : Int) < (P : Int)) = true := decide_eq_true hp1
                  have hne2 : (x == y) = false := by simp [hne]
                  have hw9 : IntKind.i64.wrap ((k' : Int) - 1) = ((k' - 1 : Nat) : Int) := by rw [IntWalk.i64_in _ (by omega), hz]
                  have hw8 : wrap64 ((k' : Int) - 1) = ((k' - 1 : Nat) : Int) := by unfold wrap64; omega
                  have hk9 : k' - 1 < D := by omega
                  go_wp2
                  go_quiet (fail)
                  go_wp2
                  go_roundw
                  case rel => exact ⟨k' + 1, _, by omega, by omega, by go_num, rfl⟩
                  case measure => simp [intOf]; omega
                · have hp1 : ¬ (1 : Int) < (P : Int) := by omega
                  have hpd : decide ((1 : Int) < (P : Int)) = false := decide_eq_false hp1
                  clear hr7
                  go_wp2
                  go_quiet (fail)
                  go_wp2
                  go_roundw
                  case rel => exact ⟨k' + 1, _, by omega, by omega, by go_num, rfl⟩
                  case measure => simp [intOf]; omega
              -->
            · have e : D = k' := by omega
              subst e
              clear hlt hk1 hk2
              have HB8 := hd (below_drewN HB7.out m')
              generalize W7.drewN m' = W8 at *
              clear HB7 HS7 HD6
              obtain ⟨F, hF⟩ : ∃ F : Nat, F = 2 ^ P := ⟨_, rfl⟩
              have hFi : (2 : Int) ^ P = (F : Int) := by rw [hF]; push_cast; rfl
              have hF1 : 2 ≤ F := by rw [hF]; exact Nat.pow_le_pow_right (n := 2) (by omega) p1
              have hF32 : F ≤ 32 := by rw [hF]; exact Nat.pow_le_pow_right (n := 2) (by omega) p5
              have hmin : min P 64 = P := by omega
              have HF := hd hF
              clear hF
              go_wp2
              go_loopw [26, 27] (fun O i wr => ∃ (q : Nat) (os : List Int), q ≤ D ∧ i = .int .i64 q ∧ Hid (os.length = q) ∧ Hid (∀ x ∈ os, 0 ≤ x ∧ x < F) ∧ wr.ownsRow W8.heap.size 2 1 O q (os.map vi) ∧ Below W8.heap.size W8 wr) (fun _ i _ => D - (intOf i).toNat)
              case atStart =>
                have hstart := World.ownsRow_made (base := W8.heap.size) (size := 1) W8 #[] 0 (Nat.le_refl _) (by unfold maxLen; omega) rfl (e := 2)
                exact ⟨0, [], by omega, rfl, hd rfl, hd (fun x hx => by cases hx), by simpa using hstart, (Below.refl _ _).alloc (Nat.le_refl _) _⟩
              case round =>
                obtain ⟨q, os, hq, rfl, HLo, HVo, ho, hB⟩ := hrel
                by_cases hlt : q < D
                ·
                  --<
                  as_aux_lemma =>
                    have HO := hd ho
                    have HB := hd hB
                    have X := hd (AM.out wr (below_tr HB.out HB8.out) q F (by omega) (by omega) (by omega))
                    have hr1 := r8F_lt x1 q (n := F) (by omega)
                    generalize r8F x1 q F = rr at *
                    clear ho hB
                    go_wp2_with (first
                      | (go_at_call 5; go_must (refine X.out.mono ?_); rintro e w' ⟨rfl, hw⟩; replace hw := hw.symm; subst hw)
                      | (at_builtin; go_must (refine wpList_app_int _ _ _ rfl _ _ rfl W8.heap.size q _ _ rfl HO.out rfl _ rfl (by simp) (by omega) HB.out.size ?_); intro v' w1 ho1 hg1 hap; have HO1 := hd ho1; have HB1 := hd (below_row hg1 HB.out (own_row HO.out (Nat.le_refl _))); clear ho1 hg1 hap))
                    go_roundw
                    case rel =>
                      refine ⟨q + 1, os ++ [(rr : Int)], by omega, by go_num, hd (by simp [HLo.out]), hd ?_, ?_, HB1.out⟩
                      · intro x hx
                        rcases List.mem_append.1 hx with h | h
                        · exact HVo.out x h
                        · obtain rfl := List.mem_singleton.1 h
                          omega
                      · have := HO1.out
                        simpa [vi] using this
                    case measure => simp [intOf]; omega
                  -->
                · have e : D = q := by omega
                  subst e
                  clear hlt hq
                  obtain ⟨Aa, capa, rfl, hcapa, hra⟩ := own_sl ho (size_le (show D ≤ 1048576 by omega))
                  have HSA := hd (show Sl wr 1 (.slice Aa D capa) D (os.map vi) from ⟨_, _, rfl, hcapa, hra⟩)
                  have AW := hd (away_any P D p1 (by omega) d1 (by omega) os HLo.out (fun x hx => by rw [hFi]; exact HVo.out x hx) _ wr HSA.out)
                  have HB9 := hd (below_tr hB HB8.out)
                  clear ho hB hra HB8
                  go_wp2_with fail
                  refine AW.out.mono ?_
                  rintro e W9 ⟨out, ok, u, rfl, hyes, hno, hor, hb⟩
                  simp only [hFi] at hyes hno
                  have HSA9 := hd (HSA.out.below hb)
                  have HB10 := hd (below_tr hb HB9.out)
                  have HY : ok = true → Hid (∃ A cap, u = .slice A D cap ∧ Rd W9 1 A D (out.map vi)) ∧ Hid (∀ k, k < D → ∃ c z : Nat, out.getD k 0 = (c : Int) ∧ c < P ∧ os.getD k 0 = (z : Int) ∧ z < F ∧ z.testBit c = false ∧ z ≠ F - 1) := fun h => by
                    obtain ⟨h1, h2⟩ := hyes h
                    rw [h1] at hor
                    obtain ⟨A, cap, e, _, hr⟩ := own_sl hor (size_le (show D ≤ 1048576 by omega))
                    refine ⟨hd ⟨A, cap, e, hr⟩, hd fun k hk => ?_⟩
                    obtain ⟨g1, g2, g3, g4⟩ := h2 k hk
                    have hm : os.getD k 0 ∈ os := by
                      rw [List.getD_eq_getElem?_getD, List.getElem?_eq_getElem (by rw [HLo.out]; exact hk)]; exact List.getElem_mem _
                    have hv := HVo.out _ hm
                    exact ⟨(out.getD k 0).toNat, (os.getD k 0).toNat, by omega, by omega, by omega, by omega, g3, by omega⟩
                  have HN := hd hno
                  have HY := hd HY
                  clear hb hor hyes hno AW HSA HB9
                  go_wp2
                  go_loopw [30, 31] (fun f i wr => ∃ (q m : Nat) (fl : Bool), q ≤ D ∧ i = .int .i64 q ∧ f = .bool fl ∧ Hid (ok = true → fl = false) ∧ Hid (∀ j, j < q → os.getD j 0 = (F : Int) - 1 → fl = true) ∧ wr = W9.drewN m) (fun _ i _ => D - (intOf i).toNat)
                  case atStart => exact ⟨0, 0, false, by omega, rfl, rfl, hd (fun _ => rfl), hd (fun j hj => absurd hj (by omega)), rfl⟩
                  case round =>
                    obtain ⟨q, m, fl, hq, rfl, rfl, HF1, HF2, hw⟩ := hrel
                    subst hw
                    by_cases hlt : q < D
                    ·
                      --<
                      as_aux_lemma =>
                        obtain ⟨_, _, e, _, hrA⟩ := id HSA9.out
                        cases e
                        obtain ⟨ba, oa, rfl, hca⟩ := hrA.int hlt
                        have hmem : os.getD q 0 ∈ os := by
                          rw [List.getD_eq_getElem?_getD, List.getElem?_eq_getElem (by rw [HLo.out]; exact hlt)]; exact List.getElem_mem _
                        have hv := HVo.out _ hmem
                        clear hmem hrA
                        cases ok with
                        | true =>
                          obtain ⟨H1, H2⟩ := HY.out rfl
                          obtain ⟨Au, capu, rfl, hru⟩ := H1.out
                          obtain ⟨bu, ou, rfl, hcu⟩ := hru.int hlt
                          obtain ⟨c, z, e1, hcP, e2, hzF, hbit, hzz⟩ := H2.out q hlt
                          obtain rfl := HF1.out rfl
                          rw [e1] at hcu
                          rw [e2] at hca
                          have E2 := hd e2
                          clear hru e1 e2 hv
                          have hzi : ((z : Int) == (F : Int) - 1) = false := by simp; omega
                          have hs1 := i64_bit z c (by omega) (by omega)
                          have hs2 := i64_bit' z c (by omega) (by omega)
                          rw [hbit] at hs1 hs2
                          have hminc : min c 64 = c := by omega
                          have hc64 : c < 64 := by omega
                          go_wp2
                          go_quiet (fail)
                          go_wp2
                          go_roundw
                          case rel =>
                            refine ⟨q + 1, _, false, by omega, by go_num, rfl, hd (fun _ => rfl), hd (fun j hj he => ?_), rfl⟩
                            rcases Nat.lt_or_ge j q with h | h
                            · exact HF2.out j h he
                            · obtain rfl : j = q := by omega
                              rw [E2.out] at he
                              omega
                          case measure => simp [intOf]; omega
                        | false =>
                          have hE : ∃ x, x = os.getD q 0 := ⟨_, rfl⟩
                          obtain ⟨x, hx⟩ := hE
                          rw [← hx] at hca hv
                          have HX := hd hx
                          clear hx
                          have HC : fl = true ∨ (fl = false ∧ (x == (F : Int) - 1) = true) ∨ (fl = false ∧ (x == (F : Int) - 1) = false) := by
                            cases fl with
                            | true => exact .inl rfl
                            | false =>
                              cases x == (F : Int) - 1 with
                              | true => exact .inr (.inl ⟨rfl, rfl⟩)
                              | false => exact .inr (.inr ⟨rfl, rfl⟩)
                          rcases HC with rfl | ⟨rfl, hxe⟩ | ⟨rfl, hxe⟩
                          · go_wp2
                            go_quiet (fail)
                            go_wp2
                            go_roundw
                            case rel => exact ⟨q + 1, _, true, by omega, by go_num, rfl, hd (fun h => by cases h), hd (fun j hj he => rfl), rfl⟩
                            case measure => simp [intOf]; omega
                          · have hxe2 : x = (F : Int) - 1 := by simpa using hxe
                            go_wp2
                            go_quiet (fail)
                            go_wp2
                            go_roundw
                            case rel => exact ⟨q + 1, _, true, by omega, by go_num, rfl, hd (fun h => by cases h), hd (fun j hj he => rfl), rfl⟩
                            case measure => simp [intOf]; omega
                          · have hxe2 : ¬ x = (F : Int) - 1 := by simpa using hxe
                            go_wp2
                            go_quiet (fail)
                            go_wp2
                            go_roundw
                            case rel =>
                              refine ⟨q + 1, _, false, by omega, by go_num, rfl, hd (fun h => by cases h), hd (fun j hj he => ?_), rfl⟩
                              rcases Nat.lt_or_ge j q with h | h
                              · exact HF2.out j h he
                              · obtain rfl : j = q := by omega
                                rw [← HX.out] at he
                                exact absurd he hxe2
                            case measure => simp [intOf]; omega
                      -->
                    · have e : D = q := by omega
                      subst e
                      clear hlt hq
                      have HE := hd (show fl = !ok by
                        cases ok with
                        | true => exact HF1.out rfl
                        | false =>
                          obtain ⟨j, hj, he⟩ := HN.out rfl
                          exact HF2.out j hj he)
                      have HB11 := hd (below_drewN HB10.out m)
                      generalize W9.drewN m = W10 at *
                      clear HF1 HF2 HN HY HB10 HSA9 HVo HLo
                      go_upto_region 49 with fail
                      go_cut [280] from 278 to 280 (fun c wx => c = .bool false ∧ wx = W10)
                      case first =>
                        --<
                        as_aux_lemma =>
                          obtain rfl := HE.out
                          cases ok
                          all_goals
                            go_wp2
                            go_meet
                            exact ⟨rfl, rfl⟩
                        -->
                      case rest =>
                      obtain ⟨rfl, hw⟩ := hcut
                      replace hw := hw.symm; subst hw
                      clear HE
                      go_wp2_with fail
                      refine (AM.out W10 HB11.out 44 6 (by omega) (by omega) (by omega)).mono ?_; rintro e w' ⟨rfl, hw⟩; replace hw := hw.symm; subst hw
                      have h6 := r8F_lt x1 44 (n := 6) (by omega)
                      generalize r8F x1 44 6 = n0 at *
                      obtain ⟨n, hn⟩ : ∃ n : Nat, (n : Int) = 1 + (n0 : Int) := ⟨1 + n0, by push_cast; rfl⟩
                      go_wp2_with fail
                      rw [← hn]
                      refine (RC.out W10 HB11.out n 8 (by omega) (by omega) (by omega)).mono ?_
                      rintro e W11 ⟨ls, u1, rfl, hsl, hsv, hso, hb⟩
                      have HB12 := hd (below_tr hb HB11.out)
                      have n1 : 1 ≤ n := by omega
                      have n6 : n ≤ 6 := by omega
                      obtain ⟨A1, cap1, rfl, hcap1, hr1⟩ := own_sl hso (size_le (show n ≤ 1048576 by omega))
                      have HS1 := hd (show Sl W11 1 (.slice A1 n cap1) n (ls.map vi) from ⟨_, _, rfl, hcap1, hr1⟩)
                      have HSL := hd hsl
                      have HSV := hd hsv
                      clear hn h6 hb hso hr1 hsl hsv HB11
                      go_wp2_with fail
                      refine (AM.out W11 HB12.out 45 6 (by omega) (by omega) (by omega)).mono ?_; rintro e w' ⟨rfl, hw⟩; replace hw := hw.symm; subst hw
                      have h6 := r8F_lt x1 45 (n := 6) (by omega)
                      generalize r8F x1 45 6 = n0' at *
                      obtain ⟨t, ht⟩ : ∃ n : Nat, (n : Int) = 1 + (n0' : Int) := ⟨1 + n0', by push_cast; rfl⟩
                      go_wp2_with fail
                      rw [← ht]
                      refine (RM.out W11 HB12.out t 8 (by omega) (by omega) (by omega)).mono ?_
                      rintro e W12 ⟨ts, u2, rfl, htl, htv, hto, hb⟩
                      have HB13 := hd (below_tr hb HB12.out)
                      have t1 : 1 ≤ t := by omega
                      have t6 : t ≤ 6 := by omega
                      obtain ⟨A2, cap2, rfl, hcap2, hr2⟩ := own_sl hto (size_le (show t ≤ 1048576 by omega))
                      have HS2 := hd (show Sl W12 1 (.slice A2 t cap2) t (ts.map vi) from ⟨_, _, rfl, hcap2, hr2⟩)
                      have HS1' := hd (HS1.out.below hb)
                      have HTL := hd htl
                      have HTV := hd htv
                      clear ht h6 hb hto hr2 htl htv HB12 HS1
                      go_wp2_with fail
                      refine (match_any W12 _ _ ls ts ?_ ?_ (by rw [HSL.out]; exact HS1'.out) (by rw [HTL.out]; exact HS2.out)).mono ?_
                      · simp only [skB, manyIn, Bool.and_eq_true, decide_eq_true_eq, List.all_eq_true]
                        refine ⟨by rw [HSL.out]; omega, by rw [HSL.out]; omega, fun x hx => ?_⟩
                        have := HSV.out x hx
                        exact inR_iff.2 ⟨by omega, by omega⟩
                      · simp only [skB, manyIn, Bool.and_eq_true, decide_eq_true_eq, List.all_eq_true]
                        refine ⟨by rw [HTL.out]; omega, by rw [HTL.out]; omega, fun x hx => ?_⟩
                        have := HTV.out x hx
                        exact inR_iff.2 ⟨by omega, by omega⟩
                      rintro e W13 ⟨om, um, rfl, hml, hmb, hmf, hmm, hmo, hb⟩
                      rw [HTL.out] at hml hmb hmf hmm hmo
                      rw [HSL.out] at hmb hmm
                      have HB14 := hd (below_tr hb HB13.out)
                      obtain ⟨Am, capm, rfl, hcapm, hrm⟩ := own_sl hmo (size_le (show t ≤ 1048576 by omega))
                      have HSm := hd (show Sl W13 1 (.slice Am t capm) t (om.map vi) from ⟨_, _, rfl, hcapm, hrm⟩)
                      have HS1 := hd (HS1'.out.below hb)
                      have HS2' := hd (HS2.out.below hb)
                      have HML := hd hml
                      have HMB := hd hmb
                      have HMF := hd hmf
                      have HMM := hd hmm
                      clear hb hmo hrm hml hmb hmf hmm HB13 HS1' HS2
                      have HZ := hd (show ∃ z, z = om.countP (fun x => decide (0 ≤ x)) from ⟨_, rfl⟩)
                      obtain ⟨z, hz⟩ := HZ.out
                      rw [← hz]
                      have HZ := hd hz
                      clear hz
                      go_wp2
                      go_loopw [37, 38] (fun ct i wr => ∃ q m c : Nat, q ≤ t ∧ i = .int .i64 q ∧ ct = .int .i64 c ∧ c ≤ q ∧ Hid ((om.take q).countP (fun x => decide (0 ≤ x)) = c) ∧ wr = W13.drewN m) (fun _ i _ => t - (intOf i).toNat)
                      case atStart => exact ⟨0, 0, 0, by omega, rfl, rfl, by omega, hd (by simp), rfl⟩
                      case round =>
                        obtain ⟨q, m, c, hq, rfl, rfl, hcq, HC, hw⟩ := hrel
                        subst hw
                        by_cases hlt : q < t
                        ·
                          --<
                          as_aux_lemma =>
                            obtain ⟨_, _, e, _, hrm⟩ := id HSm.out
                            cases e
                            obtain ⟨bm, o_m, rfl, hcm⟩ := hrm.int hlt
                            have hv := HMB.out q hlt
                            have HC2 := hd (show (om.take (q + 1)).countP (fun x => decide (0 ≤ x)) = c + (if 0 ≤ om.getD q 0 then 1 else 0) by
                              have hlen : q < om.length := by rw [HML.out]; exact hlt
                              rw [List.take_add_one, List.countP_append, HC.out, List.getElem?_eq_getElem hlen, List.getD_eq_getElem?_getD, List.getElem?_eq_getElem hlen]
                              simp [List.countP_cons])
                            rcases Int.lt_or_le (om.getD q 0) 0 with hneg | hpos
                            · have HC3 := hd (HC2.out.trans (by rw [if_neg (by omega)]; rfl : _ = c))
                              clear HC2 hrm
                              generalize om.getD q 0 = x at *
                              go_wp2
                              go_roundw
                              case rel => exact ⟨q + 1, m, c, by omega, by go_num, rfl, by omega, HC3, rfl⟩
                              case measure => simp [intOf]; omega
                            · have HC3 := hd (HC2.out.trans (by rw [if_pos hpos] : _ = c + 1))
                              obtain ⟨hfit, hoth⟩ := HMF.out q hlt hpos
                              obtain ⟨y, hy⟩ := Int.eq_ofNat_of_zero_le hpos
                              have hyn : y < n := by omega
                              obtain ⟨_, _, e, _, hr1⟩ := id HS1.out
                              cases e
                              obtain ⟨b1, o1, rfl, hc1⟩ := hr1.int hyn
                              obtain ⟨_, _, e, _, hr2⟩ := id HS2'.out
                              cases e
                              obtain ⟨b2, o2, rfl, hc2⟩ := hr2.int hlt
                              rw [hy, Int.toNat_natCast] at hfit
                              have hfit2 : bits .andNot .i64 (ts.getD q 0) (ls.getD y 0) = 0 := by
                                have : (bits .andNot .i64 (ts.getD q 0) (ls.getD y 0) == 0) = true := hfit
                                simpa using this
                              have HH := hd (fun w' (h : Below W13.heap.size W13 w') => r8Has_any (.slice (some ⟨bm, o_m, none⟩) q capm) (om.take q) (y : Int) w' (by
                                have e : (om.take q).length = q := by rw [List.length_take, HML.out]; omega
                                rw [e]
                                refine Sl.below ⟨_, _, rfl, by omega, ?_, by unfold maxLen; omega, fun h0 => ⟨bm, o_m, rfl, fun j u hu => ?_⟩⟩ h
                                · simp [HML.out]; omega
                                · obtain ⟨_, _, e, hcc⟩ := hrm.2.2 (by omega)
                                  cases e
                                  refine hcc j u ?_
                                  rw [List.map_take, List.getElem?_take] at hu
                                  split at hu
                                  · exact hu
                                  · cases hu))
                              have hno : (om.take q).contains (y : Int) = false := by
                                rw [Bool.eq_false_iff]
                                intro hcon
                                rw [List.contains_iff_mem] at hcon
                                obtain ⟨j, hj, e⟩ := List.getElem_of_mem hcon
                                have hjq : j < q := by rw [List.length_take] at hj; omega
                                refine hoth j hjq ?_
                                rw [hy, ← e, List.getElem_take, List.getD_eq_getElem?_getD, List.getElem?_eq_getElem (by rw [HML.out]; omega)]
                                rfl
                              rw [hno] at HH
                              rw [hy] at hcm
                              clear HC2 hrm hr1 hr2 hfit hoth hno hv hpos hy
                              generalize ts.getD q 0 = xt at *
                              generalize ls.getD y 0 = xl at *
                              have hqc : q ≤ capm := by omega
                              have hqci : (q : Int) ≤ (capm : Int) := by omega
                              have hq0 : (0 : Int) ≤ (q : Int) := by omega
                              have hcz : ¬ capm = 0 := by omega
                              have hcz2 : (capm == 0) = false := by simp; omega
                              go_wp2
                              go_quiet (first | (go_at_call 12; exact ((HH.out _ (below_drewN (Below.refl _ _) _)).mono fun _ _ h => ⟨h.1, _, h.2⟩)))
                              go_wp2
                              go_roundw
                              case rel => exact ⟨q + 1, _, c + 1, by omega, by go_num, by go_num, by omega, HC3, rfl⟩
                              case measure => simp [intOf]; omega
                          -->
                        · have e : t = q := by omega
                          subst e
                          clear hlt hq
                          have hcc : c = z := by
                            rw [HZ.out, ← HC.out, List.take_of_length_le (by rw [HML.out]; exact Nat.le_refl _)]
                          subst hcc
                          clear HC HZ
                          have HB15 := hd (below_drewN HB14.out m)
                          have HSm2 := hd (HSm.out.below (below_drewN (Below.refl _ _) m))
                          have HS12 := hd (HS1.out.below (below_drewN (Below.refl _ _) m))
                          have HS22 := hd (HS2'.out.below (below_drewN (Below.refl _ _) m))
                          generalize W13.drewN m = W14 at *
                          clear HB14 HSm HS1 HS2' HMF
                          go_wp2
                          go_loopw [39] (fun i wr => ∃ q m : Nat, q ≤ t ∧ i = .int .i64 q ∧ wr = W14.drewN m) (fun i _ => t - (intOf i).toNat)
                          case atStart => exact ⟨0, 0, by omega, rfl, rfl⟩
                          case round =>
                            obtain ⟨q, m, hq, rfl, hw⟩ := hrel
                            subst hw
                            by_cases hlt : q < t
                            · go_wp2
                              go_loopw [40] (fun i wr => ∃ g m : Nat, g ≤ n ∧ i = .int .i64 g ∧ wr = W14.drewN m) (fun i _ => n - (intOf i).toNat)
                              case atStart => exact ⟨0, m, by omega, rfl, rfl⟩
                              case round =>
                                obtain ⟨g, m', hg, rfl, hw⟩ := hrel
                                subst hw
                                by_cases hlt2 : g < n
                                · obtain ⟨_, _, e, _, hrm⟩ := id HSm2.out
                                  cases e
                                  obtain ⟨bm, o_m, rfl, hcm⟩ := hrm.int hlt
                                  rcases Int.lt_or_le (om.getD q 0) 0 with hneg | hpos
                                  · have hnd : decide (om.getD q 0 < 0) = true := decide_eq_true hneg
                                    have HH := hd (fun w' (h : Below W14.heap.size W14 w') => r8Has_any (.slice (some ⟨bm, o_m, none⟩) t capm) om (g : Int) w' (by rw [HML.out]; exact Sl.below ⟨_, _, rfl, by omega, hrm⟩ h))
                                    cases hcon : om.contains (g : Int) with
                                    | true =>
                                      rw [hcon] at HH
                                      clear hrm hcon
                                      generalize om.getD q 0 = x at *
                                      go_wp2
                                      go_quiet (first | (go_at_call 12; exact ((HH.out _ (below_drewN (Below.refl _ _) _)).mono fun _ _ h => ⟨h.1, _, h.2⟩)))
                                      go_wp2
                                      go_roundw
                                      case rel => exact ⟨g + 1, _, by omega, by go_num, rfl⟩
                                      case measure => simp [intOf]; omega
                                    | false =>
                                      rw [hcon] at HH
                                      obtain ⟨_, _, e, _, hr1⟩ := id HS12.out
                                      cases e
                                      obtain ⟨b1, o1, rfl, hc1⟩ := hr1.int hlt2
                                      obtain ⟨_, _, e, _, hr2⟩ := id HS22.out
                                      cases e
                                      obtain ⟨b2, o2, rfl, hc2⟩ := hr2.int hlt
                                      have hbad : ¬ bits .andNot .i64 (ts.getD q 0) (ls.getD g 0) = 0 := fun h => by
                                        obtain ⟨j, hj, e⟩ := HMM.out q g hlt hneg hlt2 (show (bits .andNot .i64 (ts.getD q 0) (ls.getD g 0) == 0) = true by simpa using h)
                                        rw [Bool.eq_false_iff] at hcon
                                        refine hcon (List.contains_iff_mem.2 ?_)
                                        rw [← e, List.getD_eq_getElem?_getD, List.getElem?_eq_getElem (by rw [HML.out]; exact hj)]
                                        exact List.getElem_mem _
                                      clear hrm hcon hr1 hr2
                                      generalize om.getD q 0 = x at *
                                      generalize ts.getD q 0 = xt at *
                                      generalize ls.getD g 0 = xl at *
                                      have hbad2 : (bits .andNot .i64 xt xl == 0) = false := by simpa using hbad
                                      go_wp2
                                      go_quiet (first | (go_at_call 12; exact ((HH.out _ (below_drewN (Below.refl _ _) _)).mono fun _ _ h => ⟨h.1, _, h.2⟩)))
                                      go_wp2
                                      go_roundw
                                      case rel => exact ⟨g + 1, _, by omega, by go_num, rfl⟩
                                      case measure => simp [intOf]; omega
                                  · have hnd : decide (om.getD q 0 < 0) = false := decide_eq_false (by omega)
                                    have hng : ¬ om.getD q 0 < 0 := by omega
                                    clear hrm
                                    generalize om.getD q 0 = x at *
                                    go_wp2
                                    go_quiet (fail)
                                    go_wp2
                                    go_roundw
                                    case rel => exact ⟨g + 1, _, by omega, by go_num, rfl⟩
                                    case measure => simp [intOf]; omega
                                · go_wp2
                                  go_roundw
                                  case rel => exact ⟨q + 1, _, by omega, by go_num, rfl⟩
                                  case measure => simp [intOf]; omega
                            · go_wp2
                              go_ret
                              exact ⟨rfl, below_drewN HB15.out m⟩

theorem own : ownKnob Try.prog.godebug = none := by kernel_rfl
theorem laidOut : laidOutB Try.prog = true := by kernel_rfl

set_option maxRecDepth 100000 in
theorem lifted (os : Os) (started : os.Started) (H : Type) (enc : TypeId × Value → H) :
    ReturnsInHanded {} Try.checked os 3 .any (Rows.fnRostersSpec.pre6 enc Try.prog Try.f3 Rows.fnRostersRow.domain false) (Rows.fnRostersSpec.post enc Try.prog Try.f3 false true false false) := by
  refine returnsInHanded_of_change (C := Try.checked) own started (by as_aux_lemma => kernel_rfl) Try.func3
    (ChangeSpec.witness6 (enc := enc) (C := Try.checked) false ⟨#[], #[.slice none 0 0, .slice none 0 0], []⟩ 8 (by as_aux_lemma => kernel_rfl) (by as_aux_lemma => kernel_rfl) (by as_aux_lemma => kernel_rfl) (by as_aux_lemma => kernel_rfl)) ?_
  intro W base args ds gs before hval0 hW hcnd _
  have hval : ∀ (j : Nat) t v, Try.f3.params[j]? = some t → args[j]? = some v → Value.okWide Try.prog W .any base t v := hval0
  have hW' := hW
  obtain ⟨p, q, hA0, hV, rfl, hfz, hnd⟩ := hW
  have hA : DataW.TrodAll enc Try.prog W 0 (fun _ => true) true Try.f3.params.toList args.toList ds p := hA0
  rw [Try.params3] at hA hval
  obtain ⟨v0, vs0, d0, ds0, p0, q0, hargs, rfl, rfl, h0, r0⟩ := trodAll_cons hA
  obtain ⟨v1, vs1, d1, ds1, p1, q1, rfl, rfl, rfl, h1, r1⟩ := trodAll_cons r0
  obtain ⟨rfl, rfl, rfl⟩ := trodAll_nil r1
  obtain rfl : args = #[v0, v1] := by cases args; simp_all
  obtain ⟨rfl, rfl⟩ := trodVars_none hV
  have k0 := h0
  have lt0 : ∀ x ∈ p0, x.block < W.heap.size := by obtain ⟨m, hm⟩ := k0; exact DataW.trod_lt m _ _ _ hm
  obtain ⟨s0, len0, cap0, rfl⟩ := okWide_slice Try.underlying22 (hval 0 22 v0 rfl rfl)
  obtain ⟨x0, _, i0, w0⟩ := arg_bytes Try.underlying22 Try.underlying5 (by as_aux_lemma => kernel_rfl) h0
  have k1 := h1
  have lt1 : ∀ x ∈ p1, x.block < W.heap.size := by obtain ⟨m, hm⟩ := k1; exact DataW.trod_lt m _ _ _ hm
  obtain ⟨s1, len1, cap1, rfl⟩ := okWide_slice Try.underlying22 (hval 1 22 v1 rfl rfl)
  obtain ⟨x1, _, i1, w1⟩ := arg_bytes Try.underlying22 Try.underlying5 (by as_aux_lemma => kernel_rfl) h1
  clear hA0 hval0
  refine (walk W _ x0 i0 w0 _ x1 i1 w1).mono fun e W' ⟨he, bel⟩ => ?_
  subst he
  exact ⟨_, rfl, _, _, _, [], _, [], hW', trodAll_mk1 (shut_bool Try.underlying4 _), (trodAll_cons_mk (Below.trod laidOut (by as_aux_lemma => kernel_rfl) (of_decide_eq_true (by as_aux_lemma => kernel_rfl)) k0 bel lt0) (trodAll_cons_mk (Below.trod laidOut (by as_aux_lemma => kernel_rfl) (of_decide_eq_true (by as_aux_lemma => kernel_rfl)) k1 bel lt1) (trodAll_mk0))), rfl, bel.frame _, fun h => by cases h⟩

/-- The given statement. -/
theorem proved : Rows.FnRostersSaid :=
  OpenClaim.holds_of_wide 3 Try.f3 rfl rfl rfl rfl rfl rfl rfl ⟨rfl, rfl, rfl, rfl, rfl⟩ rfl rfl rfl rfl rfl (by kernel_rfl) Try.func3 (by kernel_rfl)
    (of_decide_eq_true (by kernel_rfl)) (by unfold Func.isWrapper; first | (rw [if_pos (by decide +kernel)]; kernel_rfl) | (rw [if_neg (by decide +kernel)]; exact ⟨rfl, rfl⟩))
    (fun os started H enc _ => lifted os started H enc)
#print axioms proved

end Go.Proofs.Ytfeehfmiicleaaa.lFnRosters
