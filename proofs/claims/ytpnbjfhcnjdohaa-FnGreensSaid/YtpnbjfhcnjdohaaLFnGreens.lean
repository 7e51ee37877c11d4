/- Whatever bytes choose flows, lost times, places, steps, soaks and moves, the program's CycleOf, GreenShares, GreenWave and HoistPeriod are as the law says: it returns true. No condition. -/
import Derived.Test.YtpnbjfhcnjdohaaRows
import Derived.Test.YtpnbjfhcnjdohaaSrcI
import Derived.Test.YtpnbjfhcnjdohaaGrnW
import Derived.Test.YtpnbjfhcnjdohaaGrnI
import Derived.Test.YtpnbjfhcnjdohaaGrnH
import Derived.Test.YtpnbjfhcnjdohaaGreenI
import Derived.Test.YtpnbjfhcnjdohaaGreenS
import Derived.Test.YtpnbjfhcnjdohaaHoist
import Derived.Test.YtpnbjfhcnjdohaaHoistS
import Derived.Test.YtpnbjfhcnjdohaaApp
import Derived.Deep.CutRange
import Derived.Test.YtpnbjfhcnjdohaaOpen
import Derived.Test.YtpnbjfhcnjdohaaOpen2
namespace Go.Proofs.Ytpnbjfhcnjdohaa.lFnGreens
open Go.ChangeShapes Go.WideShapes Go.ChangeAt Go.RowKit Go.Proofs.Ytpnbjfhcnjdohaa Plain
set_option linter.unusedVariables false
set_option linter.unusedSimpArgs false
attribute [local go_sem ↓] Go.wp_at_zero Go.wp_at_succ

attribute [local irreducible] flowW lostW cycW shW proW wantW D64 up64 fixW placeW cN rN sN lowB eW mW quoW
theorem one_sub {K : Nat} (h : K ≤ 24) : floatBits .sub .f64 4607182418800017408 (D64 (K * 33554432)) = some (D64 ((32 - K) * 33554432)) := by
  have h1 := D64_sub (A := 1073741824) (B := K * 33554432) (by omega) (by omega)
  rw [one_64.1, show 1073741824 - K * 33554432 = (32 - K) * 33554432 by omega] at h1
  exact h1
theorem wf_of {x : Nat} (h : x < 2139095040) : (Lit.float .f32 x).wf = true := by
  simp only [Lit.wf, decide_eq_true_eq]
  have : FloatKind.f32.format.width = 32 := rfl
  omega
theorem sumG_bd {l : List Int} (h : ∀ x ∈ l, 1 ≤ x ∧ x ≤ 3) (j : Nat) (hj : j ≤ l.length) : 0 ≤ sumG l j ∧ sumG l j ≤ 3 * j := by
  induction j with
  | zero => exact ⟨Int.le_refl _, Int.le_refl _⟩
  | succ j ih =>
    have h1 := ih (by omega)
    have h2 := getD_in h (i := j) (by omega)
    rw [sumG]
    omega
set_option maxHeartbeats 8000000 in
set_option maxRecDepth 100000 in
theorem walk (w : World) (v0 : Value) (x0 : List Nat) (i0 : ∀ x ∈ x0, x < 256) (s0 : Sl w 1 v0 x0.length (bys x0)) (v1 : Value) (x1 : List Nat) (i1 : ∀ x ∈ x1, x < 256) (s1 : Sl w 1 v1 x1.length (bys x1)) :
    Calls Try.prog 3 #[v0, v1] w fun e w' => e = .returned (.bool true) ∧ Below w.heap.size w w' := by
  have L := hd (b10Long_any v0 v1 x0 x1 w s0 s1)
  have AC := hd (fun w' (h : Below w.heap.size w w') k n hn hn2 hk => b10At_any v0 x0 i0 k n hn hn2 hk w' (s0.below h))
  have AM := hd (fun w' (h : Below w.heap.size w w') k n hn hn2 hk => b10At_any v1 x1 i1 k n hn hn2 hk w' (s1.below h))
  clear s0 s1 i0 i1
  have HZ := one_64.2.1
  go_enter Try.func3, Try.ntmps3
  go_wp2_with fail
  refine L.out.mono ?_; rintro e w' ⟨b, rfl, hw⟩; replace hw := hw.symm; subst hw
  cases b with
  | true =>
    go_wp2
    go_ret
    exact ⟨rfl, Below.refl _ _⟩
  | false =>
  clear L
  go_upto_region 6 with fail
  go_loopw [5, 6, 7] (fun F sm iv wr => ∃ ks : List Nat, ks.length ≤ 4 ∧ iv = .int .i64 ks.length ∧ sm = .float .f64 (D64 (sumN ks ks.length * 33554432)) ∧ Hid (∀ k ∈ ks, 1 ≤ k ∧ k ≤ 6) ∧ Hid (wr.ownsRow w.heap.size 27 1 F ks.length ((ks.map flowW).map vf)) ∧ Hid (Below w.heap.size w wr)) (fun _ _ iv _ => 4 - (intOf iv).toNat)
  case atStart =>
    have hstart := World.ownsRow_made (base := w.heap.size) (size := 1) w #[] 0 (Nat.le_refl _) (by unfold maxLen; omega) rfl (e := 27)
    exact ⟨[], by simp, rfl, by rw [show sumN [] ([] : List Nat).length * 33554432 = 0 from rfl, HZ], hd (fun k hk => by cases hk), hd (by simpa using hstart), hd ((Below.refl _ _).alloc (Nat.le_refl _) _)⟩
  case round =>
    obtain ⟨ks, hl, rfl, rfl, HF, HO, HB⟩ := hrel
    go_wp2_with fail
    refine (AM.out wr HB.out 0 4 (by omega) (by omega) (by omega)).mono ?_; rintro e w' ⟨q0, hq0, rfl, hw⟩; replace hw := hw.symm; subst hw
    have hw0 : IntKind.i64.wrap (1 + (q0 : Int)) = 1 + (q0 : Int) := IntWalk.i64_in _ (by omega)
    by_cases hlt : (ks.length : Int) < 1 + (q0 : Int)
    ·
      --<
      as_aux_lemma =>
      have l3 : ks.length ≤ 3 := by omega
      go_wp2_with fail
      refine (AC.out wr HB.out ks.length 6 (by omega) (by omega) (by omega)).mono ?_; rintro e w' ⟨q, hq, rfl, hw⟩; replace hw := hw.symm; subst hw
      obtain ⟨k, hk⟩ : ∃ k : Nat, k = q + 1 := ⟨_, rfl⟩
      have hwk : IntKind.i64.wrap (1 + (q : Int)) = (k : Int) := by rw [IntWalk.i64_in _ (by omega), hk]; push_cast; omega
      have k1 : 1 ≤ k := by omega
      have k6 : k ≤ 6 := by omega
      obtain ⟨t1, t2, _, _, t3, _⟩ := tabK k (by omega) k1
      have R1 := fun w => run_float_arith (P := Try.prog) w .quo 27 .f32 _ _ _ t1
      have CV := conv_rung (P := Try.prog) 27 25 Try.underlying27 Try.underlying25 t3
      rw [t2] at CV
      have sb := sumN_bd HF.out ks.length (Nat.le_refl _)
      have AD := fun w => run_float_arith (P := Try.prog) w .add 25 .f64 _ _ _ (D64_add (A := sumN ks ks.length * 33554432) (B := k * 33554432) (by omega))
      rw [← Nat.add_mul, ← sumN_snoc] at AD
      obtain ⟨SN, hSN⟩ : ∃ SN, SN = D64 (sumN (ks ++ [k]) (ks ++ [k]).length * 33554432) := ⟨_, rfl⟩
      rw [← hSN] at AD
      have HSN := hd hSN
      clear hSN
      clear sb t1 t2 t3 hk hq hw0
      go_wp2_with (at_builtin; go_must (refine wpList_app_float _ _ _ rfl _ _ rfl w.heap.size ks.length _ _ rfl HO.out rfl _ rfl (by simp) (by omega) HB.out.size ?_); intro v' w1 ho1 hg1 hap; have HO1 := hd ho1; have HB1 := hd (below_row hg1 HB.out (own_row HO.out (Nat.le_refl _))); clear ho1 hg1 hap)
      go_roundw
      case rel =>
        refine ⟨ks ++ [k], by simp; omega, by first | go_num | simp, by first | (rw [HSN.out]; done) | rfl, hd ?_, hd ?_, HB1⟩
        · intro x hx
          rcases List.mem_append.1 hx with h | h
          · exact HF.out x h
          · obtain rfl := List.mem_singleton.1 h
            omega
        · have := HO1.out
          simpa [vf] using this
      case measure => simp [intOf]; omega
      -->
    · have hl1 : 1 ≤ ks.length := by omega
      have hfl : Flo ks := ⟨hl1, hl, HF.out⟩
      go_wp2_with fail
      refine (AM.out wr HB.out 1 17 (by omega) (by omega) (by omega)).mono ?_; rintro e w' ⟨h, hh, rfl, hw⟩; replace hw := hw.symm; subst hw
      obtain ⟨t1, t2, t3, t4, t5, t6, t7, t8⟩ := tabH h hh
      obtain ⟨s1, s2⟩ := flo_sum hfl
      have C := cycK s1 s2 hh
      have CM := cyc_M hfl hh
      have SM := sha_M hfl hh
      have TB := hd (tot_bd hfl hh)
      have TO := tot_ok hfl hh
      have R1 := fun w => run_float_arith (P := Try.prog) w .quo 27 .f32 _ _ _ t1
      have HS := hd (own_sl HO.out (size_le (show ks.length ≤ 1048576 by omega)))
      have HSh := hd (fun j (hj : j < ks.length) => by
        have h1 := hfl.2.2 _ (mem_getD hj)
        exact shaK h1.1 h1.2 (sumN_get hj _ (Nat.le_refl _) hj) s2 hh)
      have hnn : nrm .f32 (cycW (sumN ks ks.length) h) = some (cycW (sumN ks ks.length) h) := by
        obtain ⟨K, L, hr, _⟩ := read_rung Ieee.single (r := cycW (sumN ks ks.length) h) (Nat.lt_of_lt_of_le C.rung (by decide))
        rw [nrm, show FloatKind.f32.format = Ieee.single from rfl, hr]; rfl
      have wfF : ∀ x ∈ ks.map flowW, (Lit.float .f32 x).wf = true := fun x hx => by
        obtain ⟨k, hk, rfl⟩ := List.mem_map.1 hx
        have h1 := HF.out k hk
        exact wf_of (tabK k (by omega) h1.1).2.2.2.2.1
      have hlm : ks.length ≤ 1048576 := by omega
      have HS' : Sl wr 1 u5 (ks.map flowW).length ((ks.map flowW).map vf) := by rw [List.length_map]; exact HS.out
      have CI := hd (CycI.impl_any wr _ _ HS' (lostW h))
      have GI := hd (fun w' (hb : Below wr.heap.size wr w') => ShaI.impl_any w' _ _ wfF (by rw [List.length_map]; exact hlm) (HS'.below hb) (lostW h) (wf_of t6) (cycW (sumN ks ks.length) h) (wf_of C.rung))
      rw [CM] at CI
      rw [SM] at GI
      dsimp only at GI
      rw [List.length_map] at GI
      obtain ⟨cy, hcy⟩ : ∃ cy, cy = cycW (sumN ks ks.length) h := ⟨_, rfl⟩
      obtain ⟨lo, hlo⟩ : ∃ lo, lo = lostW h := ⟨_, rfl⟩
      rw [← hlo] at R1 CI GI
      rw [← hcy] at CI GI hnn
      have T2 := hd t2
      have T6 := hd t6
      have T7 := hd t7
      have T8 := hd t8
      have HC := hd C
      have HTO := hd TO
      have HCY := hd hcy
      have HLO := hd hlo
      clear CM SM hlm wfF HS' t1 t2 t3 t4 t5 t6 t7 t8 C TO hcy hlo
      go_wp2_with fail
      go_at_call 6
      refine CI.out.mono ?_; rintro e w2 ⟨bb, rfl, hbb, hb2⟩
      have hbc : bb = cy := (nrm_some (k := .f32) hbb).1
      subst hbc
      have B2 := hd hb2
      clear hbb hb2 CI R1
      go_wp2_with fail
      go_at_call 7
      refine (GI.out w2 B2.out).mono ?_; rintro e w3 ⟨sh, rfl, hso, hb3⟩
      have B3 := hd (below_tr hb3 B2.out)
      have HSl := hd (own_sl hso (size_le (show ks.length ≤ 1048576 by omega)))
      clear hso hb3 B2 GI
      obtain ⟨AF, cF, rfl, hcF, hrF⟩ := HS.out
      obtain ⟨ASh, cSh, rfl, hcSh, hrSh⟩ := HSl.out
      have HSr := hd hrSh
      clear hrF hrSh
      have hrung : bb < 2139095040 := by rw [HCY.out]; exact HC.out.rung
      have CVc := conv_rung (P := Try.prog) 27 25 Try.underlying27 Try.underlying25 hrung
      have CVl := conv_rung (P := Try.prog) 27 25 Try.underlying27 Try.underlying25 (show lo < 2139095040 by rw [HLO.out]; exact T6.out)
      have Q1 := fun w => run_float_arith (P := Try.prog) w .sub 25 .f64 _ _ _ (one_sub s2)
      have Q2 := fun w => run_float_arith (P := Try.prog) w .mul 25 .f64 _ _ _ HC.out.mul
      have Q3 := fun w => run_float_arith (P := Try.prog) w .mul 25 .f64 _ _ _ T7.out
      have Q4 := fun w => run_float_arith (P := Try.prog) w .add 25 .f64 _ _ _ T8.out
      rw [← HCY.out] at Q2
      rw [← HLO.out] at Q3
      obtain ⟨g, hg, GP⟩ : ∃ g, FloatKind.f64.format.order g 4576918229304087675 = some .lt ∧ ∀ w, Calls Try.prog 8 #[.float .f64 (proW (sumN ks ks.length) h), .float .f64 (wantW h)] w fun r w' => r = .returned (.float .f64 g) ∧ w' = w := by
        rcases HC.out.gap with ⟨g1, g, g2, g3⟩ | ⟨o, g1, g2, g, g3, g4⟩
        · exact ⟨g, g3, gap_lt g1 g2⟩
        · exact ⟨g, g4, gap_ge g1 g2 g3⟩
      have GP := hd GP
      clear hrung
      go_wp2_with fail
      go_at_call 8
      refine (GP.out _).mono ?_; rintro e w' ⟨rfl, hw⟩; replace hw := hw.symm; subst hw
      go_upto_region 16 with fail
      clear Q1 Q2 Q3 Q4 hg GP
      have hu2 : up64 lo = D64 (totV (sumN ks ks.length) h ks 0) := by rw [HLO.out]; exact T2.out
      have hu3 : up64 bb = D64 (fixW (cycW (sumN ks ks.length) h)) := by rw [HCY.out]; exact HC.out.up
      rw [hu3] at CVc
      rw [hu2] at CVl
      clear hu2 hu3
      obtain ⟨S, hS⟩ : ∃ S, S = sumN ks ks.length := ⟨_, rfl⟩
      rw [← hS] at CVc CVl HTO TB HSh HSr HC
      have HSS := hd hS
      clear hS
      go_wp2
      go_loopw [14, 106] (fun tv jv wr2 => ∃ j : Nat, j ≤ ks.length ∧ jv = .int .i64 j ∧ tv = .float .f64 (D64 (totV S h ks j)) ∧ Hid (Below w3.heap.size w3 wr2)) (fun _ jv _ => ks.length - (intOf jv).toNat)
      case atStart => exact ⟨0, by omega, rfl, rfl, hd (Below.refl _ _)⟩
      case round =>
        obtain ⟨j, hj, rfl, rfl, HBj⟩ := hrel
        by_cases hlt2 : j < ks.length
        ·
          --<
          as_aux_lemma =>
          have K1 := HSh.out j hlt2
          have tb := (TB.out j (by omega)).1
          obtain ⟨bs, os, rfl, hc⟩ := (HSr.out.below HBj.out).flt hlt2
          rw [getD_map (shW S h) ks 0 0 hlt2] at hc
          have CV := conv_rung (P := Try.prog) 27 25 Try.underlying27 Try.underlying25 K1.rung
          rw [K1.up] at CV
          have p40 : (2 : Nat) ^ 40 = 1099511627776 := by decide
          have AD := fun w => run_float_arith (P := Try.prog) w .add 25 .f64 _ _ _ (D64_add (A := totV S h ks j) (B := fixW (shW S h (ks.getD j 0))) (by have := K1.lt; have h53 : (2 : Nat) ^ 53 = 9007199254740992 := (by decide); omega))
          have e : totV S h ks j + fixW (shW S h (ks.getD j 0)) = totV S h ks (j + 1) := rfl
          rw [e] at AD
          have k2 : (j : Int) < (ks.length : Int) := Int.ofNat_lt.2 hlt2
          clear p40 e CVc CVl
          generalize shW S h (ks.getD j 0) = sw at *
          go_wp2
          go_roundw
          case rel => exact ⟨j + 1, by omega, by go_num, rfl, HBj⟩
          case measure => simp [intOf]; omega
          -->
        · obtain rfl : j = ks.length := by omega
          have p50 : (2 : Nat) ^ 50 = 1125899906842624 := by decide
          have p40 : (2 : Nat) ^ 40 = 1099511627776 := by decide
          have p53 : (2 : Nat) ^ 53 = 9007199254740992 := by decide
          obtain ⟨b1, b2, b3⟩ := HTO
          have b4 := HC.out.lt
          obtain ⟨g, hg, GP⟩ : ∃ g, FloatKind.f64.format.order g 4576918229304087675 = some .lt ∧ ∀ w, Calls Try.prog 8 #[.float .f64 (D64 (totV S h ks ks.length)), .float .f64 (D64 (fixW (cycW S h)))] w fun r w' => r = .returned (.float .f64 g) ∧ w' = w := by
            have hT : totV S h ks ks.length < 2 ^ 53 := by omega
            have hV : fixW (cycW S h) < 2 ^ 53 := by omega
            rcases Nat.lt_or_ge (totV S h ks ks.length) (fixW (cycW S h)) with h1 | h1
            · exact ⟨D64 (fixW (cycW S h) - totV S h ks ks.length), D64_small (by omega), gap_lt ((D64_gap hT hV).1 h1) (D64_sub hV (Nat.le_of_lt h1))⟩
            · obtain ⟨o, h2, h3⟩ := (D64_gap hT hV).2 h1
              exact ⟨D64 (totV S h ks ks.length - fixW (cycW S h)), D64_small (by omega), gap_ge h2 h3 (D64_sub hT h1)⟩
          have GP := hd GP
          clear p50 p40 p53 b1 b2 b3 b4
          go_wp2_with fail
          go_at_call 8
          refine (GP.out _).mono ?_; rintro e w' ⟨rfl, hw⟩; replace hw := hw.symm; subst hw
          go_upto_region 26 with fail
          have Bw := hd (below_tr HBj.out (below_tr B3.out HB.out))
          clear HBj B3 HB hg GP HSr HC TB HSh HSS CVc CVl HS HF HO T2 T6 T7 T8 HCY HLO hnn hfl hlt2 hj
          rename World => w4
          go_loopw [16, 17] (fun F iv wr => ∃ ps : List Nat, ps.length ≤ 5 ∧ iv = .int .i64 ps.length ∧ Hid (∀ p ∈ ps, p < 64) ∧ Hid (wr.ownsRow w4.heap.size 27 1 F ps.length ((ps.map placeW).map vf)) ∧ Hid (Below w4.heap.size w4 wr)) (fun _ iv _ => 5 - (intOf iv).toNat)
          case atStart =>
            have hstart := World.ownsRow_made (base := w4.heap.size) (size := 1) w4 #[] 0 (Nat.le_refl _) (by unfold maxLen; omega) rfl (e := 27)
            exact ⟨[], by simp, rfl, hd (fun k hk => by cases hk), hd (by simpa using hstart), hd ((Below.refl _ _).alloc (Nat.le_refl _) _)⟩
          case round =>
            obtain ⟨ps, hl, rfl, HF, HO, HB⟩ := hrel
            go_wp2_with fail
            go_at_call 5
            refine (AM.out wr (below_tr HB.out Bw.out) 2 5 (by omega) (by omega) (by omega)).mono ?_; rintro e w' ⟨q0, hq0, rfl, hw⟩; replace hw := hw.symm; subst hw
            have hw0 : IntKind.i64.wrap (1 + (q0 : Int)) = 1 + (q0 : Int) := IntWalk.i64_in _ (by omega)
            by_cases hlt : (ps.length : Int) < 1 + (q0 : Int)
            ·
              --<
              as_aux_lemma =>
              have l3 : ps.length ≤ 4 := by omega
              have hw5 : IntKind.i64.wrap (5 + (ps.length : Int)) = ((5 + ps.length : Nat) : Int) := by rw [IntWalk.i64_in _ (by omega)]; push_cast; rfl
              go_wp2_with fail
              go_at_call 5
              refine (AC.out wr (below_tr HB.out Bw.out) (5 + ps.length) 64 (by omega) (by omega) (by omega)).mono ?_; rintro e w' ⟨p, hp, rfl, hw⟩; replace hw := hw.symm; subst hw
              have R1 := fun w => run_float_arith (P := Try.prog) w .quo 27 .f32 _ _ _ (tabPl p hp)
              clear hw0 hw5
              go_wp2_with (at_builtin; go_must (refine wpList_app_float _ _ _ rfl _ _ rfl w4.heap.size ps.length _ _ rfl HO.out rfl _ rfl (by simp) (by omega) HB.out.size ?_); intro v' w1 ho1 hg1 hap; have HO1 := hd ho1; have HB1 := hd (below_row hg1 HB.out (own_row HO.out (Nat.le_refl _))); clear ho1 hg1 hap)
              go_roundw
              case rel =>
                refine ⟨ps ++ [p], by simp; omega, by first | go_num | simp, hd ?_, hd ?_, HB1⟩
                · intro x hx
                  rcases List.mem_append.1 hx with h | h
                  · exact HF.out x h
                  · obtain rfl := List.mem_singleton.1 h
                    exact hp
                · have := HO1.out
                  simpa [vf] using this
              case measure => simp [intOf]; omega
              -->
            · have hl1 : 1 ≤ ps.length := by omega
              have hpl : Pla ps := ⟨hl1, hl, HF.out⟩
              go_wp2_with fail
              go_at_call 5
              refine (AM.out wr (below_tr HB.out Bw.out) 3 40 (by omega) (by omega) (by omega)).mono ?_; rintro e w' ⟨q, hq, rfl, hw⟩; replace hw := hw.symm; subst hw
              obtain ⟨n, hn⟩ : ∃ n : Nat, n = q + 1 := ⟨_, rfl⟩
              have hwn : IntKind.i64.wrap (1 + (q : Int)) = (n : Int) := by rw [IntWalk.i64_in _ (by omega), hn]; push_cast; omega
              have n1 : 1 ≤ n := by omega
              have n40 : n ≤ 40 := by omega
              have PW := pla_wave hpl n1 n40
              have PM := hd (pla_mark hpl n1 n40)
              obtain ⟨bd, hbd, d1, d2, ⟨o1, d3, d4⟩, ⟨o2, d5, d6⟩, ⟨o3, d7, d8⟩⟩ := pla_band hpl n1 n40
              rw [← hbd] at PW
              have PW' := hd PW
              obtain ⟨AF, cF, rfl, hcF, hrF⟩ := own_sl HO.out (size_le (show ps.length ≤ 1048576 by omega))
              have HPl := hd (show Sl wr 1 (.slice AF ps.length cF) (ps.map placeW).length ((ps.map placeW).map vf) by rw [List.length_map]; exact ⟨AF, cF, rfl, hcF, hrF⟩)
              have hwf : ∀ x ∈ ps.map placeW, (Lit.float .f32 x).wf = true := fun x hx => by
                obtain ⟨p, hp, rfl⟩ := List.mem_map.1 hx
                simpa [Lit.wf] using (place_okW (HF.out p hp)).2.2.2
              have WI := hd (fun w' (hb : Below wr.heap.size wr w') => implWave_any w' _ _ hwf (HPl.out.below hb) 1069547520 (by decide) 1090519040 (by decide) 1056964608 n)
              have WS := hd (fun w' (hb : Below wr.heap.size wr w') => specWave_any w' _ _ hwf (HPl.out.below hb) 1069547520 (by decide) 1090519040 (by decide) 1056964608 n)
              rw [PW] at WI WS
              obtain ⟨t1, t2, t3, _⟩ := tabC n (by omega) n1
              obtain ⟨mk, hmk⟩ : ∃ mk, mk = marksW 1094713344 n (ps.map placeW) ps.length := ⟨_, rfl⟩
              have hml : mk.length = ps.length := by rw [hmk, marks_len]
              rw [← hmk] at WI WS PM
              have c1 : (FloatKind.f32.format.order bd 0 == some .lt) = false := by rw [d3]; simpa using d4
              have c2 : (FloatKind.f64.format.order (up64 bd) 4602687826371901653 == some .gt) = false := by rw [d5]; simpa using d6
              have c3 : (FloatKind.f64.format.order (up64 bd) (cN n) == some .lt) = false := by rw [d7]; simpa using d8
              have CV := conv_rung (P := Try.prog) 27 25 Try.underlying27 Try.underlying25 d1
              have Q1 := fun w => run_float_arith (P := Try.prog) w .quo 25 .f64 _ _ _ t1
              have Q2 := fun w => run_float_arith (P := Try.prog) w .sub 25 .f64 _ _ _ t2
              have Q3 := fun w => run_float_arith (P := Try.prog) w .sub 25 .f64 _ _ _ t3
              have SMB := hd (same_any bd (by omega) d2)
              clear hn hq hwf hbd hrF PW hmk t1 t2 t3 d1 d2 d3 d4 d5 d6 d7 d8 PW' hpl
              go_wp2_with fail
              go_at_call 9
              refine (WI.out wr (Below.refl _ _)).mono ?_
              rintro e wa ⟨ru, rfl, hoa, hba⟩
              have Ba := hd hba
              rw [hml] at hoa
              have HRa := hd (own_sl hoa (size_le (show ps.length ≤ 1048576 by omega)))
              clear hoa hba WI
              go_wp2_with fail
              go_at_call 10
              refine (WS.out wa Ba.out).mono ?_
              rintro e wb ⟨rt, rfl, hob, hbb⟩
              have Bb := hd (below_tr hbb Ba.out)
              rw [hml] at hob
              have HRb := hd (own_sl hob (size_le (show ps.length ≤ 1048576 by omega)))
              have HRa2 := hd (HRa.out.below hbb)
              clear hob hbb WS Ba HRa
              go_wp2_with fail
              go_at_call 11
              refine (list_any wb ru rt ps.length mk PM.out HRa2.out HRb.out).mono ?_
              rintro e wc ⟨rfl, hbc⟩
              have Bc := hd (below_tr (below_tr (below_tr hbc Bb.out) HB.out) Bw.out)
              clear hbc Bb HRb HRa2 HPl PM hml
              go_wp2_with fail
              go_at_call 12
              refine (SMB.out _).mono ?_; rintro e w' ⟨rfl, hw⟩; replace hw := hw.symm; subst hw
              go_upto_region 34 with fail
              clear Q1 Q2 Q3 c1 c2 c3 CV SMB HB Bw HF HO hl hl1 hlt n1 n40 hwn
              go_wp2_with fail
              go_at_call 5
              refine (AM.out _ (Bc.out.alloc Bc.out.size _) 4 3 (by omega) (by omega) (by omega)).mono ?_; rintro e w' ⟨q4, hq4, rfl, hw⟩; replace hw := hw.symm; subst hw
              obtain ⟨m0, hm0⟩ : ∃ m0 : Nat, m0 = q4 + 1 := ⟨_, rfl⟩
              have hwm : IntKind.i64.wrap (1 + (q4 : Int)) = (m0 : Int) := by rw [IntWalk.i64_in _ (by omega), hm0]; push_cast; omega
              have m1 : 1 ≤ m0 := by omega
              have m3 : m0 ≤ 3 := by omega
              clear hm0 hq4
              go_upto_region 37 with fail
              go_loopw [25, 26, 27] (fun S M iv wr => ∃ so mv : List Int, so.length ≤ 4 ∧ iv = .int .i64 so.length ∧ mv.length = so.length + 1 ∧ Hid (∀ x ∈ so, 0 ≤ x ∧ x ≤ 8) ∧ Hid (∀ x ∈ mv, 1 ≤ x ∧ x ≤ 3) ∧ Hid (wr.ownsRow wc.heap.size 2 1 S so.length (so.map vi)) ∧ Hid (wr.ownsRow wc.heap.size 2 1 M mv.length (mv.map vi)) ∧ Hid (Dj S M) ∧ Hid (Below wc.heap.size wc wr)) (fun _ _ iv _ => 4 - (intOf iv).toNat)
              case atStart =>
                have hS := World.ownsRow_made (base := wc.heap.size) (size := 1) wc #[] 0 (Nat.le_refl _) (by unfold maxLen; omega) rfl (e := 2)
                have hM := World.ownsRow_lit (base := (wc.alloc (.cells #[] 2)).heap.size) (e := 2) (size := 1) (wc.alloc (.cells #[] 2)) #[.int .i64 (m0 : Int)] 1 (Nat.le_refl _) (by unfold maxLen; omega) rfl
                have hD := dj_new hS hM
                have hS2 := hS.alloc (.cells #[.int .i64 (m0 : Int)] 2)
                have hM2 := own_mono hM (show wc.heap.size ≤ (wc.alloc (.cells #[] 2)).heap.size by simp)
                have hB2 := ((Below.refl wc.heap.size wc).alloc (Nat.le_refl _) (.cells #[] 2)).alloc (by simp) (.cells #[.int .i64 (m0 : Int)] 2)
                refine ⟨[], [(m0 : Int)], by simp, rfl, rfl, hd (fun x hx => by cases hx), hd (fun x hx => by obtain rfl := List.mem_singleton.1 hx; omega), hd ?_, hd ?_, hd ?_, hd ?_⟩
                · simpa using hS2
                · simpa [vi] using hM2
                · simpa using hD
                · simpa using hB2
              case round =>
                obtain ⟨so, mv, hl, rfl, hml, HVS, HVM, HS, HM, HD, HB⟩ := hrel
                go_wp2_with fail
                go_at_call 5
                refine (AM.out wr (below_tr HB.out Bc.out) 5 4 (by omega) (by omega) (by omega)).mono ?_; rintro e w' ⟨q0, hq0, rfl, hw⟩; replace hw := hw.symm; subst hw
                have hw0 : IntKind.i64.wrap (1 + (q0 : Int)) = 1 + (q0 : Int) := IntWalk.i64_in _ (by omega)
                by_cases hlt : (so.length : Int) < 1 + (q0 : Int)
                ·
                  --<
                  as_aux_lemma =>
                  have l3 : so.length ≤ 3 := by omega
                  have hw10 : IntKind.i64.wrap (10 + (so.length : Int)) = ((10 + so.length : Nat) : Int) := by rw [IntWalk.i64_in _ (by omega)]; push_cast; rfl
                  have hw20 : IntKind.i64.wrap (20 + (so.length : Int)) = ((20 + so.length : Nat) : Int) := by rw [IntWalk.i64_in _ (by omega)]; push_cast; rfl
                  go_wp2_with fail
                  go_at_call 5
                  refine (AC.out wr (below_tr HB.out Bc.out) (10 + so.length) 9 (by omega) (by omega) (by omega)).mono ?_; rintro e w' ⟨q1, hq1, rfl, hw⟩; replace hw := hw.symm; subst hw
                  go_wp2_with (at_builtin; go_must (refine wpList_app_int _ _ _ rfl _ _ rfl wc.heap.size so.length _ _ rfl HS.out rfl _ rfl (by simp) (by omega) HB.out.size ?_); intro v' w1 ho1 hg1 hap; have HS1 := hd ho1; have HM1 := hd (own_kept HM.out hg1 (dj_symm HD.out)); have HD1 := hd (dj_symm (hap _ (own_in HM.out) (dj_symm HD.out))); have HB1 := hd (below_row hg1 HB.out (own_row HS.out (Nat.le_refl _))); clear ho1 hg1 hap)
                  go_at_call 5
                  refine (AC.out w1 (below_tr HB1.out Bc.out) (20 + so.length) 3 (by omega) (by omega) (by omega)).mono ?_; rintro e w' ⟨q2, hq2, rfl, hw⟩; replace hw := hw.symm; subst hw
                  have hw2 : IntKind.i64.wrap (1 + (q2 : Int)) = 1 + (q2 : Int) := IntWalk.i64_in _ (by omega)
                  clear hw10 hw20 hw0
                  go_wp2_with (at_builtin; go_must (refine wpList_app_int _ _ _ rfl _ _ rfl wc.heap.size mv.length _ _ rfl HM1.out rfl _ rfl (by simp) (by omega) HB1.out.size ?_); intro v2 w2' ho2 hg2 hap2; have HM2 := hd ho2; have HS2 := hd (own_kept HS1.out hg2 HD1.out); have HD2 := hd (hap2 _ (own_in HS1.out) HD1.out); have HB2 := hd (below_row hg2 HB1.out (own_row HM1.out (Nat.le_refl _))); clear ho2 hg2 hap2)
                  go_roundw
                  case rel =>
                    refine ⟨so ++ [(q1 : Int)], mv ++ [1 + (q2 : Int)], by simp; omega, by first | go_num | simp, by simp; omega, hd ?_, hd ?_, hd ?_, hd ?_, HD2, HB2⟩
                    · intro x hx
                      rcases List.mem_append.1 hx with h | h
                      · exact HVS.out x h
                      · obtain rfl := List.mem_singleton.1 h; omega
                    · intro x hx
                      rcases List.mem_append.1 hx with h | h
                      · exact HVM.out x h
                      · obtain rfl := List.mem_singleton.1 h; omega
                    · have := HS2.out
                      simpa [vi] using this
                    · have := HM2.out
                      simpa [vi] using this
                  case measure => simp [intOf]; omega
                  -->
                · have hl1 : 1 ≤ so.length := by omega
                  obtain ⟨P, hP, hle⟩ := hoist_law hl1 hl HVS.out hml HVM.out
                  obtain ⟨AS, cS, rfl, hcS, hrS⟩ := own_sl HS.out (size_le (show so.length ≤ 1048576 by omega))
                  obtain ⟨AMv, cM, rfl, hcM, hrM⟩ := own_sl HM.out (size_le (show mv.length ≤ 1048576 by omega))
                  have HSs := hd (show Sl wr 1 (.slice AS so.length cS) so.length (so.map vi) from ⟨AS, cS, rfl, hcS, hrS⟩)
                  have HMs := hd (show Sl wr 1 (.slice AMv mv.length cM) mv.length (mv.map vi) from ⟨AMv, cM, rfl, hcM, hrM⟩)
                  have HMr := hd hrM
                  have HI := hd (fun w' (hb : Below wr.heap.size wr w') => HoistPeriod_any w' _ so (HSs.out.below hb) _ mv (HMs.out.below hb) 400)
                  have HS' := hd (fun w' (hb : Below wr.heap.size wr w') => specHoistPeriod_any w' _ so (HSs.out.below hb) _ mv (HMs.out.below hb) 400)
                  rw [hP] at HI HS'
                  have HML := hd hml
                  have hm5 : mv.length ≤ 5 := by omega
                  clear hrS hrM hP hml
                  go_wp2_with fail
                  go_at_call 13
                  refine (HI.out wr (Below.refl _ _)).mono ?_; rintro e wd ⟨rfl, hbd⟩
                  have Bd := hd hbd
                  clear hbd HI
                  go_wp2_with fail
                  go_at_call 14
                  refine (HS'.out wd Bd.out).mono ?_; rintro e we ⟨rfl, hbe⟩
                  have Be := hd (below_tr hbe Bd.out)
                  clear hbe HS' Bd
                  go_wp2
                  go_loopw [32, 245] (fun bv jv wr2 => ∃ j : Nat, j ≤ mv.length ∧ jv = .int .i64 j ∧ bv = .int .i64 (sumG mv j) ∧ Hid (Below we.heap.size we wr2)) (fun _ jv _ => mv.length - (intOf jv).toNat)
                  case atStart => exact ⟨0, by omega, rfl, rfl, hd (Below.refl _ _)⟩
                  case round =>
                    obtain ⟨j, hj, rfl, rfl, HBj⟩ := hrel
                    by_cases hlt2 : j < mv.length
                    · obtain ⟨bs, os, rfl, hc⟩ := (HMr.out.below (below_tr HBj.out Be.out)).int hlt2
                      have g1 := sumG_bd HVM.out j hj
                      have g2 := getD_in HVM.out hlt2
                      obtain ⟨s1, hs1⟩ : ∃ s1, s1 = sumG mv (j + 1) := ⟨_, rfl⟩
                      have HS1 := hd hs1
                      have e : sumG mv j + mv.getD j 0 = s1 := hs1.symm
                      obtain ⟨z, hz⟩ : ∃ z, z = mv.getD j 0 := ⟨_, rfl⟩
                      rw [← hz] at hc g2 e
                      have hw1 : IntKind.i64.wrap (sumG mv j + z) = s1 := by rw [← e]; exact IntWalk.i64_in _ (by omega)
                      have k2 : (j : Int) < (mv.length : Int) := Int.ofNat_lt.2 hlt2
                      clear g1 g2 e hs1 hz
                      go_wp2
                      go_roundw
                      case rel => exact ⟨j + 1, by omega, by go_num, by rw [HS1.out], HBj⟩
                      case measure => simp [intOf]; omega
                    · obtain rfl : j = mv.length := by omega
                      have hge : (P : Int) ≥ sumG mv mv.length := hle
                      go_wp2
                      go_ret
                      exact ⟨by first | rfl | simp [hle], below_tr HBj.out (below_tr Be.out (below_tr HB.out Bc.out))⟩

theorem own : ownKnob Try.prog.godebug = none := by kernel_rfl
theorem laidOut : laidOutB Try.prog = true := by kernel_rfl

set_option maxRecDepth 100000 in
theorem lifted (os : Os) (started : os.Started) (H : Type) (enc : TypeId × Value → H) :
    ReturnsInHanded {} Try.checked os 3 .any (Rows.fnGreensSpec.pre6 enc Try.prog Try.f3 Rows.fnGreensRow.domain false) (Rows.fnGreensSpec.post enc Try.prog Try.f3 false true false false) := by
  refine returnsInHanded_of_change (C := Try.checked) own started (by as_aux_lemma => kernel_rfl) Try.func3
    (ChangeSpec.witness6 (enc := enc) (C := Try.checked) false ⟨#[], #[.slice none 0 0, .slice none 0 0], []⟩ 8 (by as_aux_lemma => kernel_rfl) (by as_aux_lemma => kernel_rfl) (by as_aux_lemma => kernel_rfl) (by as_aux_lemma => kernel_rfl)) ?_
  intro W base args ds gs before hval0 hW hcnd _
  have hval : ∀ (j : Nat) t v, Try.f3.params[j]? = some t → args[j]? = some v → Value.okWide Try.prog W .any base t v := hval0
  have hW' := hW
  obtain ⟨p, q, hA0, hV, rfl, hfz, hnd⟩ := hW
  have hA : DataW.TrodAll enc Try.prog W 0 (fun _ => true) true Try.f3.params.toList args.toList ds p := hA0
  rw [Try.params3] at hA hval
  obtain ⟨v0, vs0, d0, ds0, p0, q0, hargs, rfl, rfl, h0, r0⟩ := trodAll_cons hA
  obtain ⟨v1, vs1, d1, ds1, p1, q1, rfl, rfl, rfl, h1, r1⟩ := trodAll_cons r0
  obtain ⟨rfl, rfl, rfl⟩ := trodAll_nil r1
  obtain rfl : args = #[v0, v1] := by cases args; simp_all
  obtain ⟨rfl, rfl⟩ := trodVars_none hV
  have k0 := h0
  have lt0 : ∀ x ∈ p0, x.block < W.heap.size := by obtain ⟨m, hm⟩ := k0; exact DataW.trod_lt m _ _ _ hm
  obtain ⟨s0, len0, cap0, rfl⟩ := okWide_slice Try.underlying22 (hval 0 22 v0 rfl rfl)
  obtain ⟨x0, _, i0, w0⟩ := arg_bytes Try.underlying22 Try.underlying5 (by as_aux_lemma => kernel_rfl) h0
  have k1 := h1
  have lt1 : ∀ x ∈ p1, x.block < W.heap.size := by obtain ⟨m, hm⟩ := k1; exact DataW.trod_lt m _ _ _ hm
  obtain ⟨s1, len1, cap1, rfl⟩ := okWide_slice Try.underlying22 (hval 1 22 v1 rfl rfl)
  obtain ⟨x1, _, i1, w1⟩ := arg_bytes Try.underlying22 Try.underlying5 (by as_aux_lemma => kernel_rfl) h1
  clear hA0 hval0
  refine (walk W _ x0 i0 w0 _ x1 i1 w1).mono fun e W' ⟨he, bel⟩ => ?_
  subst he
  exact ⟨_, rfl, _, _, _, [], _, [], hW', trodAll_mk1 (shut_bool Try.underlying4 _), (trodAll_cons_mk (Below.trod laidOut (by as_aux_lemma => kernel_rfl) (of_decide_eq_true (by as_aux_lemma => kernel_rfl)) k0 bel lt0) (trodAll_cons_mk (Below.trod laidOut (by as_aux_lemma => kernel_rfl) (of_decide_eq_true (by as_aux_lemma => kernel_rfl)) k1 bel lt1) (trodAll_mk0))), rfl, bel.frame _, fun h => by cases h⟩

/-- The given statement. -/
theorem proved : Rows.FnGreensSaid :=
  OpenClaim.holds_of_wide 3 Try.f3 rfl rfl rfl rfl rfl rfl rfl ⟨rfl, rfl, rfl, rfl, rfl⟩ rfl rfl rfl rfl rfl (by kernel_rfl) Try.func3 (by kernel_rfl)
    (of_decide_eq_true (by kernel_rfl)) (by unfold Func.isWrapper; first | (rw [if_pos (by decide +kernel)]; kernel_rfl) | (rw [if_neg (by decide +kernel)]; exact ⟨rfl, rfl⟩))
    (fun os started H enc _ => lifted os started H enc)
#print axioms proved

end Go.Proofs.Ytpnbjfhcnjdohaa.lFnGreens
