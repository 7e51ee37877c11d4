/- Whatever bytes choose the nodes and arcs, the program's PeriodOf, SlowRing, IsPeriod, TimesOf and RunArcs are as the law says: it returns true. No condition. -/
import Derived.Test.YtclkgfcehmmgaaaRows
import Derived.Test.YtclkgfcehmmgaaaRgsP
import Derived.Test.YtclkgfcehmmgaaaSlowU
import Derived.Test.YtclkgfcehmmgaaaIsPer
import Derived.Deep.CutRange
import Derived.Test.YtclkgfcehmmgaaaOpen
import Derived.Test.YtclkgfcehmmgaaaOpen2
namespace Go.Proofs.Ytclkgfcehmmgaaa.lFnRings
open Go.ChangeShapes Go.WideShapes Go.ChangeAt Go.RowKit Go.Proofs.Ytclkgfcehmmgaaa Plain
set_option linter.unusedVariables false
set_option linter.unusedSimpArgs false
attribute [local go_sem ↓] Go.wp_at_zero Go.wp_at_succ

theorem snd_MSl (n : Int) (l : List Q4) : (MSl n l).2 = (MPer n l).2.2 := by
  cases h : (MPer n l).2.2 with
  | false => rw [MSl_no h]
  | true =>
    obtain ⟨n', s, p, _, _, _, _, _, _, _, e⟩ := MSl_ring h
    rw [e]
set_option maxHeartbeats 8000000 in
set_option maxRecDepth 100000 in
theorem walk (w : World) (v0 : Value) (x0 : List Nat) (i0 : ∀ x ∈ x0, x < 256) (s0 : Sl w 1 v0 x0.length (bys x0)) (v1 : Value) (x1 : List Nat) (i1 : ∀ x ∈ x1, x < 256) (s1 : Sl w 1 v1 x1.length (bys x1)) :
    Calls Try.prog 3 #[v0, v1] w fun e w' => e = .returned (.bool true) ∧ Below w.heap.size w w' := by
  have L := hd (b10Long_any v0 v1 x0 x1 w s0 s1)
  have AM := hd (fun w' (h : Below w.heap.size w w') k n hn hn2 hk => b10At_any v1 x1 i1 k n hn hn2 hk w' (s1.below h))
  have RL := hd (fun w' (h : Below w.heap.size w w') ev e1 e2 => B10Arcs_any v0 x0 i0 w' (s0.below h) ev e1 e2)
  clear s0 s1 i0 i1
  go_enter Try.func3, Try.ntmps3
  go_wp2_with fail
  refine L.out.mono ?_; rintro e w' ⟨b, rfl, hw⟩; replace hw := hw.symm; subst hw
  cases b with
  | true =>
    go_wp2
    go_ret
    exact ⟨rfl, Below.refl _ _⟩
  | false =>
  clear L
  go_wp2_with fail
  refine (AM.out w (Below.refl _ _) 0 5 (by omega) (by omega) (by omega)).mono ?_; rintro e w' ⟨n0, hn0, rfl, hw⟩; replace hw := hw.symm; subst hw
  obtain ⟨n, hn⟩ : ∃ n : Nat, (n : Int) = 1 + (n0 : Int) := ⟨1 + n0, by push_cast; rfl⟩
  have n1 : 1 ≤ n := by omega
  have n5 : n ≤ 5 := by omega
  have hwn : IntKind.i64.wrap (1 + (n0 : Int)) = (n : Int) := by rw [IntWalk.i64_in _ (by omega), hn]
  clear hn hn0
  go_wp2_with fail
  refine (RL.out w (Below.refl _ _) n n1 n5).mono ?_
  rintro e w1 ⟨l, u, rfl, l1, l2, hl, ho, hb1⟩
  clear hwn
  obtain ⟨hab, ha, hok, h64⟩ := drawn_ok n1 n5 l1 l2 hl
  have HB1 := hd hb1
  have HU := hd (own_sl ho (size_le (show l.length ≤ 1048576 by omega)))
  have hin : I64 (n : Int) := ⟨by omega, by omega⟩
  have hi5 : I64 (5 : Int) := ⟨by omega, by omega⟩
  have hlm : l.length ≤ 1048576 := by omega
  have SP := hd (fun w' (hb : Below w1.heap.size w1 w') => specPeriodOf_any w' n hin u l h64 hlm (HU.out.below hb))
  have IP := hd (fun w' (hb : Below w1.heap.size w1 w') => PeriodOf_any w' n hin u l h64 hlm (HU.out.below hb))
  have IS := hd (fun w' (hb : Below w1.heap.size w1 w') => SlowRing_any w' n hin u l h64 hlm (HU.out.below hb))
  have SS := hd (fun w' (hb : Below w1.heap.size w1 w') => specSlowRing_any w' n hin u l h64 hlm (HU.out.below hb))
  have AA := hd (fun w' (hb : Below w1.heap.size w1 w') => AreArcs_any n u l w' (HU.out.below hb))
  have SA := hd (fun w' (hb : Below w1.heap.size w1 w') => sameArcs_any w' u l (HU.out.below hb))
  have IR := hd (fun w' (hb : Below w1.heap.size w1 w') => RunC.impl_any w' n hin u l h64 hlm (HU.out.below hb) 5 hi5)
  have SR := hd (fun w' (hb : Below w1.heap.size w1 w') => RunC.spec_any w' n hin u l h64 hlm (HU.out.below hb) 5 hi5)
  have II := hd (fun w' (hb : Below w1.heap.size w1 w') lg hlg q hq => IsPeriod_any w' n hin u l h64 hlm (HU.out.below hb) lg hlg q hq)
  have IT := hd (fun w' (hb : Below w1.heap.size w1 w') lg hlg q hq => TimI.impl_any w' n hin u l h64 hlm (HU.out.below hb) lg hlg q hq)
  rw [hab] at AA
  rw [run_M n1 hok] at IR SR
  rw [snd_MSl] at IS SS
  have RK := hd (fun hk => ring_known n1 n5 ha hok hk)
  have TK := hd (fun lg q (hp : PerK n l lg q) => times_known n1 n5 l2 ha hok hp)
  have TM := hd (fun lg q (hp : PerK n l lg q) => tim_M hok hp)
  have IM := hd (fun lg q (hp : PerK n l lg q) => isp_M hab hp)
  have HAR := hd ha
  have ML := MSl_len n l
  obtain ⟨R5, hR5⟩ : ∃ R5, R5 = 5 * n := ⟨_, rfl⟩
  have e5 : (outR l n 5 5).length = R5 := (outR_len _ _ _ _).trans hR5.symm
  have HR5 := hd hR5
  obtain ⟨N, hN⟩ : ∃ N, N = l.length := ⟨_, rfl⟩
  have HN := hd hN
  rw [← hN] at l1 l2 HU
  dsimp only at IR SR
  rw [e5] at IR SR
  clear hb1 ho hin hi5 hlm h64 hok ha hab hl hN e5 hR5
  obtain ⟨lg, hlg⟩ : ∃ lg, lg = (MPer n l).1 := ⟨_, rfl⟩
  obtain ⟨q, hq⟩ : ∃ q, q = (MPer n l).2.1 := ⟨_, rfl⟩
  obtain ⟨kn, hkn⟩ : ∃ kn, kn = (MPer n l).2.2 := ⟨_, rfl⟩
  obtain ⟨Rn, hRn⟩ : ∃ Rn, Rn = outR l n 5 5 := ⟨_, rfl⟩
  obtain ⟨ps, hps⟩ : ∃ ps, ps = (MSl n l).1 := ⟨_, rfl⟩
  rw [← hlg, ← hq] at RK
  rw [← hkn] at SP IP IS SS RK
  rw [← hlg, ← hq] at SP IP
  rw [← hps] at IS SS ML
  rw [← hRn] at IR SR TK
  have HPS := hd hps
  clear hlg hq hkn hRn hps
  go_wp2_with fail
  refine (SP.out w1 (Below.refl _ _)).mono ?_; rintro e w2 ⟨rfl, hb2⟩
  have B2 := hd hb2
  clear hb2 SP
  go_wp2_with fail
  refine (IP.out w2 B2.out).mono ?_; rintro e w3 ⟨rfl, hb3⟩
  have B3 := hd (below_tr hb3 B2.out)
  clear hb3 B2 IP
  go_wp2_with fail
  refine (IS.out w3 B3.out).mono ?_; rintro e w4 ⟨ru, rfl, ho4, hb4⟩
  have B4 := hd (below_tr hb4 B3.out)
  have HG4 := hd (own_sl ho4 (size_le (show ps.length ≤ 1048576 by omega)))
  clear ho4 hb4 B3 IS
  have hkk : (kn != kn) = false := by cases kn <;> rfl
  go_wp2_with fail
  refine (AA.out w4 B4.out).mono ?_; rintro e w5 ⟨rfl, hb5⟩
  have B5 := hd (below_tr hb5 B4.out)
  have HG5 := hd (HG4.out.below hb5)
  clear hb5 B4 HG4 AA
  go_wp2_with fail
  refine (SA.out w5 B5.out).mono ?_; rintro e w6 ⟨rfl, hb6⟩
  have B6 := hd (below_tr hb6 B5.out)
  have HG6 := hd (HG5.out.below hb6)
  clear hb6 B5 HG5 SA
  go_wp2_with fail
  refine (IR.out w6 B6.out).mono ?_; rintro e w7 ⟨rn, rfl, ho7, hb7⟩
  have B7 := hd (below_tr hb7 B6.out)
  have HG7 := hd (HG6.out.below hb7)
  have HR7 := hd (own_sl ho7 (size_le (show R5 ≤ 1048576 by have := HR5.out; omega)))
  clear ho7 hb7 B6 HG6 IR
  go_wp2_with fail
  refine (SR.out w7 B7.out).mono ?_; rintro e w8 ⟨rt, rfl, ho8, hb8⟩
  have B8 := hd (below_tr hb8 B7.out)
  have HG8 := hd (HG7.out.below hb8)
  have HR8 := hd (HR7.out.below hb8)
  have HT8 := hd (own_sl ho8 (size_le (show R5 ≤ 1048576 by have := HR5.out; omega)))
  clear ho8 hb8 B7 HG7 HR7 SR
  go_wp2_with fail
  refine (ints_any w8 rn rt R5 Rn HR8.out HT8.out).mono ?_; rintro e w9 ⟨rfl, hb9⟩
  have B9 := hd (below_tr hb9 B8.out)
  have HG9 := hd (HG8.out.below hb9)
  have HR9 := hd (HR8.out.below hb9)
  clear hb9 B8 HG8 HR8 HT8 hkk
  cases kn with
  | false =>
    clear RK TK TM IM SS II IT HAR HG9 HR9
    go_wp2
    go_ret
    exact ⟨rfl, below_tr B9.out HB1.out⟩
  | true =>
  obtain ⟨HK, p, qz, hM, RG⟩ := RK.out rfl
  have hps : ps = p.map (fun i : Nat => (i : Int)) := by rw [HPS.out, hM]
  have hpl : ps.length = p.length := by rw [hps, List.length_map]
  have TM' := TM.out lg q HK
  have TK' := hd (TK.out lg q HK)
  obtain ⟨hI1, hI2⟩ := IM.out lg q HK
  obtain ⟨⟨g0, g1⟩, ⟨q0, q1⟩, _, _⟩ := HK
  rw [hpl] at ML HG9 SS
  rw [hps] at HG9 SS
  have RG' := hd RG
  have p1 := RG.p1
  have p2 := RG.p2
  clear RK TK TM IM hpl hps HPS hM RG
  go_wp2_with fail
  refine (SS.out w9 B9.out).mono ?_; rintro e wa ⟨rw', rfl, hoa, hba⟩
  have Ba := hd (below_tr hba B9.out)
  have HGa := hd (HG9.out.below hba)
  have HRa := hd (HR9.out.below hba)
  have HWa := hd (own_sl hoa (size_le (show p.length ≤ 1048576 by omega)))
  clear hoa hba B9 HG9 HR9 SS
  go_wp2_with fail
  refine (ints_any wa ru rw' p.length (p.map (fun i : Nat => (i : Int))) HGa.out HWa.out).mono ?_; rintro e wb ⟨rfl, hbb⟩
  have Bb := hd (below_tr hbb Ba.out)
  have HGb := hd (HGa.out.below hbb)
  have HRb := hd (HRa.out.below hbb)
  have HUb := hd (HU.out.below Bb.out)
  clear hbb Ba HGa HRa HWa
  have hq1 : ¬ q < 1 := by omega
  obtain ⟨P, hP⟩ : ∃ P, P = p.length := ⟨_, rfl⟩
  have HPp := hd hP
  rw [← hP] at p1 p2 HGb ML
  clear hP
  obtain ⟨Ag, cg, rfl, hcg, hrg⟩ := HGb.out
  have HGr := hd hrg
  obtain ⟨AU, cU, rfl, hcU, hrU⟩ := HUb.out
  have HUr := hd hrU
  clear hrg hrU
  go_upto_region 22 with fail
  go_wp2
  go_loopw [20, 21, 133] (fun sm mk iv wr => ∃ k : Nat, k ≤ P ∧ iv = .int .i64 k ∧ sm = .int .i64 (sumQ Q4.c (qz.take k)) ∧ mk = .int .i64 (sumQ Q4.d (qz.take k)) ∧ Hid (Below wb.heap.size wb wr)) (fun _ _ iv _ => P - (intOf iv).toNat)
  case atStart => exact ⟨0, by omega, rfl, rfl, rfl, hd (Below.refl _ _)⟩
  case round =>
    obtain ⟨k, hk, rfl, rfl, rfl, HB⟩ := hrel
    have hq12 : qz.length ≤ 12 := by have := RG'.out.len; have := HPp.out; omega
    by_cases hlt : k < P
    ·
      --<
      as_aux_lemma =>
      have hmod : (k + 1) % P < P := Nat.mod_lt _ (by omega)
      have c1 := take_bd (f := Q4.c) (l := qz) (M := 1000) (by omega) (fun a h => (arcs_bd HAR.out a (RG'.out.mem a h)).1) hq12 k
      have c2 := take_bd (f := Q4.d) (l := qz) (M := 10) (by omega) (fun a h => (arcs_bd HAR.out a (RG'.out.mem a h)).2) hq12 k
      have c3 := take_bd (f := Q4.c) (l := qz) (M := 1000) (by omega) (fun a h => (arcs_bd HAR.out a (RG'.out.mem a h)).1) hq12 (k + 1)
      have c4 := take_bd (f := Q4.d) (l := qz) (M := 10) (by omega) (fun a h => (arcs_bd HAR.out a (RG'.out.mem a h)).2) hq12 (k + 1)
      obtain ⟨i, hi⟩ : ∃ i, p[k]? = some i := ⟨_, List.getElem?_eq_getElem (by have := HPp.out; omega)⟩
      obtain ⟨j, hj⟩ : ∃ j, p[(k + 1) % P]? = some j := ⟨_, List.getElem?_eq_getElem (by have := HPp.out; omega)⟩
      obtain ⟨a, ha⟩ : ∃ a, qz[k]? = some a := ⟨_, List.getElem?_eq_getElem (by rw [RG'.out.len]; have := HPp.out; omega)⟩
      obtain ⟨b, hb⟩ : ∃ b, qz[(k + 1) % P]? = some b := ⟨_, List.getElem?_eq_getElem (by rw [RG'.out.len]; have := HPp.out; omega)⟩
      have gi := (RG'.out.at' k i hi).trans ha
      have gj := (RG'.out.at' _ j hj).trans hb
      have hiN : i < N := by have := (List.getElem?_eq_some_iff.1 gi).1; have := HN.out; omega
      have hjN : j < N := by have := (List.getElem?_eq_some_iff.1 gj).1; have := HN.out; omega
      have ht := RG'.out.turn k i j a b (by have := HPp.out; omega) hi (by rw [← HPp.out]; exact hj) gi gj
      rw [sumQ_take ha] at c3 c4
      have HC := hd (sumQ_take (f := Q4.c) ha)
      have HD := hd (sumQ_take (f := Q4.d) ha)
      obtain ⟨bg, og, rfl, r0⟩ := (HGr.out.below HB.out).int hlt
      obtain ⟨_, _, e1, r1⟩ := (HGr.out.below HB.out).int hmod
      cases e1
      rw [show (p.map (fun i : Nat => (i : Int))).getD k 0 = (i : Int) by rw [List.getD_eq_getElem?_getD, List.getElem?_map, hi]; rfl] at r0
      rw [show (p.map (fun i : Nat => (i : Int))).getD ((k + 1) % P) 0 = (j : Int) by rw [List.getD_eq_getElem?_getD, List.getElem?_map, hj]; rfl] at r1
      obtain ⟨bu, ou, xa, xb, xc, xd, rfl, hxa, s0, s1, s2, s3⟩ := (HUr.out.below HB.out).q4 hiN
      obtain ⟨_, _, ya, yb, yc, yd, e2, hya, t0, t1, t2, t3⟩ := (HUr.out.below HB.out).q4 hjN
      cases e2
      have ea := hxa.out.symm.trans gi
      cases ea
      have eb := hya.out.symm.trans gj
      cases eb
      dsimp only at ht c3 c4 HC HD
      subst ht
      obtain ⟨mm, hmm⟩ : ∃ mm, mm = (k + 1) % P := ⟨_, rfl⟩
      have hw1 : IntKind.i64.wrap ((k : Int) + 1) = (k : Int) + 1 := IntWalk.i64_in _ (by omega)
      have hQ : ((k : Int) + 1).tmod (P : Int) = (mm : Int) := by
        rw [Int.tmod_eq_emod_of_nonneg (by omega), hmm]
        push_cast; rfl
      have hkz : ¬ P = 0 := by omega
      have hkk : (P == 0) = false := by simp; omega
      have hk9 : ((P : Int) == 0) = false := by simp; omega
      have hw3 : IntKind.i64.wrap (mm : Int) = (mm : Int) := by
        have : mm < P := by rw [hmm]; exact hmod
        exact IntWalk.i64_in _ (by omega)
      have hw4 : wrap64 ((k : Int) + 1) = (k : Int) + 1 := by unfold wrap64; omega
      have hrem : ∀ w, (binOp .rem 3 (.int .i64 ((k : Int) + 1)) (.int .i64 (P : Int))).run Try.prog w = .ok (.int .i64 (mm : Int)) w := fun w => by
        simp [binOp, Op.intDiv, hkz, hQ, Sem.run]
      rw [← hmm] at r1 hmod
      have k2 : (k : Int) < (P : Int) := Int.ofNat_lt.2 hlt
      have i2 : (i : Int) < (N : Int) := Int.ofNat_lt.2 hiN
      have j2 : (j : Int) < (N : Int) := Int.ofNat_lt.2 hjN
      have m2 : (mm : Int) < (P : Int) := Int.ofNat_lt.2 hmod
      have hmm' := hd hmm
      clear hmm gi gj hi hj ha hb hxa hya s0 t1 t2 t3 hmod
      generalize sumQ Q4.c (qz.take k) = sc at *
      generalize sumQ Q4.d (qz.take k) = sd at *
      have hwc : IntKind.i64.wrap (sc + xc) = sc + xc := IntWalk.i64_in _ (by omega)
      have hwd : IntKind.i64.wrap (sd + xd) = sd + xd := IntWalk.i64_in _ (by omega)
      clear c1 c2 c3 c4
      go_upto_region 27 with fail
      go_quiet (fail)
      clear hrem hw1 hw3 hw4 hQ hk9 hkk hkz
      go_wp2
      go_roundw
      case rel => exact ⟨k + 1, by omega, by go_num, by rw [HC.out], by rw [HD.out], hd (below_drewN HB.out _)⟩
      case measure => simp [intOf]; omega
      -->
    · obtain rfl : k = P := by omega
      rw [List.take_of_length_le (show qz.length ≤ k by have := RG'.out.len; have := HPp.out; omega)]
      have c1 := take_bd (f := Q4.c) (l := qz) (M := 1000) (by omega) (fun a h => (arcs_bd HAR.out a (RG'.out.mem a h)).1) hq12 qz.length
      have c2 := take_bd (f := Q4.d) (l := qz) (M := 10) (by omega) (fun a h => (arcs_bd HAR.out a (RG'.out.mem a h)).2) hq12 qz.length
      rw [List.take_length] at c1 c2
      have hs := RG'.out.sums
      have hm := RG'.out.marks
      generalize sumQ Q4.c qz = sc at *
      generalize sumQ Q4.d qz = sd at *
      have Bc := hd (below_tr HB.out Bb.out)
      have HRc := hd (HRb.out.below HB.out)
      have HUc := hd (show Rd wr 4 AU N (q4s l) from HUr.out.below HB.out)
      have hlg : I64 lg := ⟨by omega, by omega⟩
      have hqi : I64 q := ⟨by omega, by omega⟩
      have II1 := II.out wr Bc.out lg hlg q hqi
      rw [hI1] at II1
      clear RG' HGr HGb HRb HUb HUr HB Bb hlt hk hq12 HPp hI1
      go_wp2_with fail
      refine II1.mono ?_; rintro e wc ⟨rfl, hbc⟩
      have Bd := hd (below_tr hbc Bc.out)
      have HRd := hd (HRc.out.below hbc)
      have HUd := hd (HUc.out.below hbc)
      clear hbc Bc HRc HUc II1
      rcases Int.lt_or_le 0 lg with hg | hg
      focus
        have w1' : IntKind.i64.wrap (4 * lg) = 4 * lg := IntWalk.i64_in _ (by omega)
        have w2' : IntKind.i64.wrap (4 * lg - 1) = 4 * lg - 1 := IntWalk.i64_in _ (by omega)
        have w3' : IntKind.i64.wrap (4 * q) = 4 * q := IntWalk.i64_in _ (by omega)
        have II2 := II.out wc Bd.out (4 * lg - 1) ⟨by omega, by omega⟩ (4 * q) ⟨by omega, by omega⟩
        rw [hI2 hg] at II2
        clear hI2 II
        go_wp2_with fail
        refine II2.mono ?_; rintro e W ⟨rfl, hbc⟩
        have Be := hd (below_tr hbc Bd.out)
        have HRe := hd (HRd.out.below hbc)
        have HUe := hd (HUd.out.below hbc)
        clear hbc Bd HRd HUd II2 w1' w2' w3'
        have IT' := IT.out W Be.out lg hlg q hqi
        rw [TM'] at IT'
        dsimp only at IT'
        clear IT
        go_wp2_with fail
      rotate_left
      focus
        have hg2 : ¬ 0 < lg := by omega
        have Be := Bd
        have HRe := HRd
        have HUe := HUd
        clear Bd HRd HUd hI2 II
        generalize hW : wc = W at *
        clear hW
        have IT' := IT.out W Be.out lg hlg q hqi
        rw [TM'] at IT'
        dsimp only at IT'
        clear IT
        go_wp2_with fail
      all_goals
        rw [TK'.out.len] at IT'
        obtain ⟨T, hT⟩ : ∃ T, T = tmA (asQ lg q l) n (n - 1) := ⟨_, rfl⟩
        rw [← hT] at IT' TK'
        clear TM' hT
        refine IT'.mono ?_
        rintro e we ⟨tt, rfl, hoe, hbe⟩
        have Bf := hd (below_tr hbe Be.out)
        have HRf := hd (HRe.out.below hbe)
        have HUf := hd (HUe.out.below hbe)
        have HTf := hd (own_sl hoe (size_le (show n ≤ 1048576 by omega)))
        clear hoe hbe Be HRe HUe IT'
        have m1 : 0 ≤ sc * q := Int.mul_nonneg (by omega) (by omega)
        have m2 : sc * q ≤ 12000 * 120 := Int.mul_le_mul (by omega) q1 (by omega) (by omega)
        have w1' : IntKind.i64.wrap (sc * q) = sc * q := IntWalk.i64_in _ (by omega)
        have w2' : IntKind.i64.wrap (lg * sd) = sc * q := by rw [← hs]; exact w1'
        have hm1 : ¬ sd < 1 := by omega
        clear hs m1 m2 c1 c2
        obtain ⟨ATf, cTf, rfl, hcTf, hrTf⟩ := HTf.out
        have HT' := hd hrTf
        clear hrTf
        obtain ⟨ARf, cRf, rfl, hcRf, hrRf⟩ := HRf.out
        have HRn' := hd hrRf
        clear hrRf
        go_upto_region 38 with fail
        go_wp2
        go_loopw [247] (fun iv wr => ∃ k : Nat, k ≤ N ∧ iv = .int .i64 k ∧ Hid (Below we.heap.size we wr)) (fun iv _ => N - (intOf iv).toNat)
        case atStart => exact ⟨0, by omega, rfl, hd (Below.refl _ _)⟩
        case round =>
          obtain ⟨k, hk, rfl, HB⟩ := hrel
          by_cases hlt : k < N
          ·
            --<
            as_aux_lemma =>
            obtain ⟨bu, ou, xa, xb, xc, xd, rfl, hxa, s0, s1, s2, s3⟩ := (HUf.out.below HB.out).q4 hlt
            have hml := List.mem_of_getElem? hxa.out
            obtain ⟨⟨x0, x1⟩, ⟨y0, y1⟩, ⟨c0, c1⟩, ⟨d0, d1⟩⟩ := arcB_iff.1 (HAR.out _ hml)
            obtain ⟨xn, rfl⟩ : ∃ xn : Nat, xa = xn := ⟨xa.toNat, by omega⟩
            obtain ⟨yn, rfl⟩ : ∃ yn : Nat, xb = yn := ⟨xb.toNat, by omega⟩
            have hxn : xn < n := by omega
            have hyn : yn < n := by omega
            have kp := TK'.out.keep _ hml
            dsimp only at kp
            rw [Int.toNat_natCast, Int.toNat_natCast] at kp
            have ta0 := TK'.out.low xn
            have ta1 := TK'.out.high xn
            have k2 : (k : Int) < (N : Int) := Int.ofNat_lt.2 hlt
            have x2 : (xn : Int) < (n : Int) := Int.ofNat_lt.2 hxn
            have y2 : (yn : Int) < (n : Int) := Int.ofNat_lt.2 hyn
            obtain ⟨mq, hmq⟩ : ∃ mq, mq = q * xc := ⟨_, rfl⟩
            obtain ⟨mr, hmr⟩ : ∃ mr, mr = lg * xd := ⟨_, rfl⟩
            have b1 : 0 ≤ mq ∧ mq ≤ 120000 := by
              have h1 : 0 ≤ q * xc := Int.mul_nonneg (by omega) c0
              have h2 : q * xc ≤ 120 * 1000 := Int.mul_le_mul q1 c1 c0 (by omega)
              omega
            have b2 : 0 ≤ mr ∧ mr ≤ 120000 := by
              have h1 : 0 ≤ lg * xd := Int.mul_nonneg g0 d0
              have h2 : lg * xd ≤ 12000 * 10 := Int.mul_le_mul g1 d1 d0 (by omega)
              omega
            rw [← hmq, ← hmr] at kp
            go_upto_region 42 with fail
            obtain ⟨W2, hW2⟩ : ∃ W2, W2 = wr.alloc (.cells #[.int .i64 (xn : Int), .int .i64 (yn : Int), .int .i64 xc, .int .i64 xd] 37) := ⟨_, rfl⟩
            rw [← hW2]
            have k0 : W2.cell? ⟨wr.heap.size, 0, none⟩ = some (.int .i64 (xn : Int)) := by rw [hW2]; exact (World.cell?_alloc_new ..).trans rfl
            have k1 : W2.cell? ⟨wr.heap.size, 1, none⟩ = some (.int .i64 (yn : Int)) := by rw [hW2]; exact (World.cell?_alloc_new ..).trans rfl
            have k2' : W2.cell? ⟨wr.heap.size, 2, none⟩ = some (.int .i64 xc) := by rw [hW2]; exact (World.cell?_alloc_new ..).trans rfl
            have k3 : W2.cell? ⟨wr.heap.size, 3, none⟩ = some (.int .i64 xd) := by rw [hW2]; exact (World.cell?_alloc_new ..).trans rfl
            have hbW : Below wr.heap.size wr W2 := by rw [hW2]; exact (Below.refl _ _).alloc (Nat.le_refl _) _
            have HBW := hd (below_tr hbW HB.out)
            obtain ⟨bt, ot, rfl, r0⟩ := (HT'.out.below HBW.out).int hxn
            obtain ⟨_, _, e1, r1⟩ := (HT'.out.below HBW.out).int hyn
            cases e1
            generalize T.getD xn 0 = ta at *
            generalize T.getD yn 0 = tb at *
            have w1' : IntKind.i64.wrap (q * xc) = mq := by rw [← hmq]; exact IntWalk.i64_in _ (by omega)
            have w2' : IntKind.i64.wrap (lg * xd) = mr := by rw [← hmr]; exact IntWalk.i64_in _ (by omega)
            have w3' : IntKind.i64.wrap (ta + mq) = ta + mq := IntWalk.i64_in _ (by omega)
            have w4' : IntKind.i64.wrap (ta + mq - mr) = ta + mq - mr := IntWalk.i64_in _ (by omega)
            have hno : ¬ tb < ta + mq - mr := by omega
            clear hW2 hbW s0 s1 s2 s3 kp hmq hmr hxa hml x0 x1 y0 y1 c0 c1 d0 d1 hxn hyn b1 b2 ta0 ta1
            go_quiet (fail)
            clear w1' w2' w3' w4' k0 k1 k2' k3 r0 r1
            go_wp2
            go_roundw
            case rel => exact ⟨k + 1, by omega, by go_num, hd (below_drewN HBW.out _)⟩
            case measure => simp [intOf]; omega
            -->
          · obtain rfl : k = N := by omega
            go_wp2
            rename World => wz
            have HBe := hd (below_tr (below_tr HB.out Bf.out) HB1.out)
            have HTe := hd (show Rd wz 1 ATf n (T.map vi) from HT'.out.below HB.out)
            have HRe := hd (show Rd wz 1 ARf R5 (Rn.map vi) from HRn'.out.below HB.out)
            clear hk hlt HB HUf HTf HRf HT' HRn' Bf HAR
            go_loopw [34] (fun mv wr2 => ∃ m : Nat, m ≤ 5 ∧ mv = .int .i64 m ∧ Hid (Below wz.heap.size wz wr2)) (fun mv _ => 5 - (intOf mv).toNat)
            case atStart => exact ⟨0, by omega, rfl, hd (Below.refl _ _)⟩
            case round =>
              obtain ⟨m, hm5, rfl, HB⟩ := hrel
              by_cases hlt : m < 5
              · have m2 : (m : Int) < 5 := by omega
                go_wp2
                go_loopw [35] (fun iv wr2 => ∃ i : Nat, i ≤ n ∧ iv = .int .i64 i ∧ Hid (Below wz.heap.size wz wr2)) (fun iv _ => n - (intOf iv).toNat)
                case atStart => exact ⟨0, by omega, rfl, HB⟩
                case round =>
                  obtain ⟨i, hi, rfl, HBi⟩ := hrel
                  by_cases hlt2 : i < n
                  ·
                    --<
                    as_aux_lemma =>
                    have hmn : m * n + i < R5 := by
                      have h1 : (m + 1) * n ≤ 5 * n := Nat.mul_le_mul_right _ (by omega)
                      rw [Nat.succ_mul] at h1
                      have := HR5.out
                      omega
                    have lt0 := TK'.out.late m i hlt2
                    have t0 := TK'.out.low i
                    have t1 := TK'.out.high i
                    have r0 := TK'.out.rlow (m * n + i)
                    have hwq : IntKind.i64.wrap (q * Rn.getD (m * n + i) 0) = q * Rn.getD (m * n + i) 0 := by
                      have h1 := TK'.out.rhigh (m * n + i)
                      have h2 : 0 ≤ q * Rn.getD (m * n + i) 0 := Int.mul_nonneg (by omega) r0
                      have h3 : q * Rn.getD (m * n + i) 0 ≤ 120 * 30000000000000 := Int.mul_le_mul q1 h1 r0 (by omega)
                      exact IntWalk.i64_in _ (by omega)
                    obtain ⟨mn, hmn'⟩ : ∃ mn, mn = m * n := ⟨_, rfl⟩
                    obtain ⟨ml, hml⟩ : ∃ ml, ml = (m : Int) * lg := ⟨_, rfl⟩
                    have b1 : 0 ≤ ml ∧ ml ≤ 60000 := by
                      have h1 : 0 ≤ (m : Int) * lg := Int.mul_nonneg (by omega) g0
                      have h2 : (m : Int) * lg ≤ 5 * 12000 := Int.mul_le_mul (by omega) g1 g0 (by omega)
                      omega
                    rw [← hmn'] at hmn lt0 hwq
                    rw [← hml] at lt0
                    obtain ⟨bt, ot, rfl, c0⟩ := (HTe.out.below HBi.out).int hlt2
                    obtain ⟨br, orr, rfl, c1⟩ := (HRe.out.below HBi.out).int hmn
                    generalize T.getD i 0 = ti at *
                    generalize Rn.getD (mn + i) 0 = rv at *
                    have R5b : R5 ≤ 25 := by have := HR5.out; omega
                    have w1' : IntKind.i64.wrap ((m : Int) * (n : Int)) = (mn : Int) := by
                      have e : (m : Int) * (n : Int) = (mn : Int) := by rw [hmn']; push_cast; rfl
                      rw [e]
                      exact IntWalk.i64_in _ (by omega)
                    have w2' : IntKind.i64.wrap ((mn : Int) + (i : Int)) = ((mn + i : Nat) : Int) := by
                      rw [IntWalk.i64_in _ (by omega)]
                      push_cast; rfl
                    have w3' : IntKind.i64.wrap ((m : Int) * lg) = ml := by rw [← hml]; exact IntWalk.i64_in _ (by omega)
                    have w4' : IntKind.i64.wrap (ti + ml) = ti + ml := IntWalk.i64_in _ (by omega)
                    have i2 : (i : Int) < (n : Int) := Int.ofNat_lt.2 hlt2
                    have m3 : ((mn + i : Nat) : Int) < (R5 : Int) := Int.ofNat_lt.2 hmn
                    have hn0 : ¬ ti < 0 := by omega
                    have hno : ¬ q * rv > ti + ml := by omega
                    have hno2 : ¬ ti + ml < q * rv := by omega
                    clear lt0 t0 t1 r0 hml hmn' b1 R5b
                    obtain ⟨ii, hii⟩ : ∃ ii, ii = mn + i := ⟨_, rfl⟩
                    rw [← hii] at c1 w2' m3 hmn
                    clear hii
                    go_wp2
                    go_quiet (fail)
                    clear w1' w2' w3' w4' c0 c1 hwq
                    go_wp2
                    go_roundw
                    case rel => exact ⟨i + 1, by omega, by go_num, hd (below_drewN HBi.out _)⟩
                    case measure => simp [intOf]; omega
                    -->
                  · obtain rfl : i = n := by omega
                    go_wp2
                    go_roundw
                    case rel => exact ⟨m + 1, by omega, by go_num, HBi⟩
                    case measure => simp [intOf]; omega
              · obtain rfl : m = 5 := by omega
                go_wp2
                go_ret
                exact ⟨rfl, below_tr HB.out HBe.out⟩

theorem own : ownKnob Try.prog.godebug = none := by kernel_rfl
theorem laidOut : laidOutB Try.prog = true := by kernel_rfl

set_option maxRecDepth 100000 in
theorem lifted (os : Os) (started : os.Started) (H : Type) (enc : TypeId × Value → H) :
    ReturnsInHanded {} Try.checked os 3 .any (Rows.fnRingsSpec.pre6 enc Try.prog Try.f3 Rows.fnRingsRow.domain false) (Rows.fnRingsSpec.post enc Try.prog Try.f3 false true false false) := by
  refine returnsInHanded_of_change (C := Try.checked) own started (by as_aux_lemma => kernel_rfl) Try.func3
    (ChangeSpec.witness6 (enc := enc) (C := Try.checked) false ⟨#[], #[.slice none 0 0, .slice none 0 0], []⟩ 8 (by as_aux_lemma => kernel_rfl) (by as_aux_lemma => kernel_rfl) (by as_aux_lemma => kernel_rfl) (by as_aux_lemma => kernel_rfl)) ?_
  intro W base args ds gs before hval0 hW hcnd _
  have hval : ∀ (j : Nat) t v, Try.f3.params[j]? = some t → args[j]? = some v → Value.okWide Try.prog W .any base t v := hval0
  have hW' := hW
  obtain ⟨p, q, hA0, hV, rfl, hfz, hnd⟩ := hW
  have hA : DataW.TrodAll enc Try.prog W 0 (fun _ => true) true Try.f3.params.toList args.toList ds p := hA0
  rw [Try.params3] at hA hval
  obtain ⟨v0, vs0, d0, ds0, p0, q0, hargs, rfl, rfl, h0, r0⟩ := trodAll_cons hA
  obtain ⟨v1, vs1, d1, ds1, p1, q1, rfl, rfl, rfl, h1, r1⟩ := trodAll_cons r0
  obtain ⟨rfl, rfl, rfl⟩ := trodAll_nil r1
  obtain rfl : args = #[v0, v1] := by cases args; simp_all
  obtain ⟨rfl, rfl⟩ := trodVars_none hV
  have k0 := h0
  have lt0 : ∀ x ∈ p0, x.block < W.heap.size := by obtain ⟨m, hm⟩ := k0; exact DataW.trod_lt m _ _ _ hm
  obtain ⟨s0, len0, cap0, rfl⟩ := okWide_slice Try.underlying22 (hval 0 22 v0 rfl rfl)
  obtain ⟨x0, _, i0, w0⟩ := arg_bytes Try.underlying22 Try.underlying5 (by as_aux_lemma => kernel_rfl) h0
  have k1 := h1
  have lt1 : ∀ x ∈ p1, x.block < W.heap.size := by obtain ⟨m, hm⟩ := k1; exact DataW.trod_lt m _ _ _ hm
  obtain ⟨s1, len1, cap1, rfl⟩ := okWide_slice Try.underlying22 (hval 1 22 v1 rfl rfl)
  obtain ⟨x1, _, i1, w1⟩ := arg_bytes Try.underlying22 Try.underlying5 (by as_aux_lemma => kernel_rfl) h1
  clear hA0 hval0
  refine (walk W _ x0 i0 w0 _ x1 i1 w1).mono fun e W' ⟨he, bel⟩ => ?_
  subst he
  exact ⟨_, rfl, _, _, _, [], _, [], hW', trodAll_mk1 (shut_bool Try.underlying4 _), (trodAll_cons_mk (Below.trod laidOut (by as_aux_lemma => kernel_rfl) (of_decide_eq_true (by as_aux_lemma => kernel_rfl)) k0 bel lt0) (trodAll_cons_mk (Below.trod laidOut (by as_aux_lemma => kernel_rfl) (of_decide_eq_true (by as_aux_lemma => kernel_rfl)) k1 bel lt1) (trodAll_mk0))), rfl, bel.frame _, fun h => by cases h⟩

/-- The given statement. -/
theorem proved : Rows.FnRingsSaid :=
  OpenClaim.holds_of_wide 3 Try.f3 rfl rfl rfl rfl rfl rfl rfl ⟨rfl, rfl, rfl, rfl, rfl⟩ rfl rfl rfl rfl rfl (by kernel_rfl) Try.func3 (by kernel_rfl)
    (of_decide_eq_true (by kernel_rfl)) (by unfold Func.isWrapper; first | (rw [if_pos (by decide +kernel)]; kernel_rfl) | (rw [if_neg (by decide +kernel)]; exact ⟨rfl, rfl⟩))
    (fun os started H enc _ => lifted os started H enc)
#print axioms proved

end Go.Proofs.Ytclkgfcehmmgaaa.lFnRings
