/- RunArcs, the program's side. -/
import Derived.Test.YtclkgfcehmmgaaaProg
import Derived.Test.YtclkgfcehmmgaaaRunL
namespace Go.Proofs.Ytclkgfcehmmgaaa
open Go.RowKit Plain
set_option linter.unusedVariables false
set_option linter.unusedSimpArgs false
attribute [local go_sem ↓] Go.wp_at_zero Go.wp_at_succ

/-- the sum of a row's numbers, as the world has them -/
def sumC (w : World) (g len : Nat) : Int := sumI ((List.range len).map fun i => match w.cell? ⟨g, i, none⟩ with | some (.int _ z) => z | _ => 0)
theorem sumC_own {w : World} {base g n cap : Nat} {e : TypeId} {xs : List Int} (h : w.ownsRow base e 1 (.slice (some ⟨g, 0, none⟩) n cap) n (xs.map vi)) : sumC w g n = sumI xs := by
  have hl := h.1
  simp at hl
  have e : ((List.range n).map fun i => match w.cell? ⟨g, i, none⟩ with | some (.int _ z) => z | _ => 0) = xs := by
    apply List.ext_getElem?
    intro i
    by_cases hi : i < n
    · rw [List.getElem?_map, List.getElem?_range hi, Option.map_some, h.cellAt i (by omega), List.getElem?_map, List.getElem?_eq_getElem (by omega)]
      rfl
    · rw [List.getElem?_eq_none (by simp; omega), List.getElem?_eq_none (by omega)]
  rw [sumC, e]
def flagV : Value → Bool
  | .bool b => b
  | _ => false
theorem relA_up {t : List Int} {s1 s2 : Nat} {c : Int} (h : t.getD s2 0 < t.getD s1 0 + c) : relA t (s1, s2, c) = t.set s2 (t.getD s1 0 + c) := by rw [relA, if_pos h]
theorem relA_no {t : List Int} {s1 s2 : Nat} {c : Int} (h : ¬ t.getD s2 0 < t.getD s1 0 + c) : relA t (s1, s2, c) = t := by rw [relA, if_neg h]
theorem set_sum {t : List Int} {s2 : Nat} {z : Int} (hs : s2 < t.length) (h : t.getD s2 0 < z) : sumI t < sumI (t.set s2 z) := by
  refine (sumI_le (by simp) (fun v hv => ?_)).2 (fun e => ?_)
  · rw [getD_setI]
    split
    · rename_i e; rw [← e.1]; omega
    · exact Int.le_refl _
  · have : (t.set s2 z).getD s2 0 = z := by rw [getD_setI, if_pos ⟨rfl, hs⟩]
    rw [← e] at this
    omega
set_option maxHeartbeats 1000000 in
set_option maxRecDepth 100000 in
theorem RunArcs_yes (n R : Nat) (v : Value) (l : List Q4) (w : World) (n1 : 1 ≤ n) (n2 : n ≤ 12) (r1 : 1 ≤ R) (r2 : R ≤ 20) (hs : Sl w 4 v l.length (q4s l)) (hl : l.length ≤ 32) (ha : ∀ a ∈ l, arcB (n : Int) a = true) (hab : arcsB n l = true) (hm : fixA (asQ 0 1 (bareOf l)) n = true) (hin : inR R 1 20 = true) :
    Calls Try.prog 13 #[.int .i64 n, v, .int .i64 R] w (OutL 2 1 (R * n) ((outR l n R R).map vi) (fun u => .tuple #[u, .bool true]) w) := by
  have A1 := hd (AreArcs_any n v l w hs)
  rw [hab] at A1
  have A2 := hd (fun w' => (within_any R 1 20 w'))
  rw [hin] at A2
  have A3 := hd (fun w' (h : Below w.heap.size w w') => areMarked_any n v l w' n1 n2 (hs.below h) hl ha)
  rw [hm] at A3
  have AG := hd (fun k hk => asQ_get (lg := 0) (q := 1) ha (by omega) (by omega) (by omega) (by omega) (k := k) hk)
  have PB := hd (fun k j i hk v => pref_bd (R := R) n1 n2 hl ha hm k j i hk v)
  have LF := hd (fun k hk => lay_fix (R := R) n1 n2 hl ha hm k hk)
  have OL := hd (fun k => outR_len l n R k)
  have PS := hd (fun k o i a h1 h2 => prefR_skip (n := n) (k := k) (l := l) (o := o) (i := i) (a := a) h1 h2)
  have PA := hd (fun k o i a h1 h2 => prefR_arc (n := n) (k := k) (l := l) (o := o) (i := i) (a := a) h1 h2)
  have PL := hd (fun k o i => prefR_len n k l o i)
  have PALL := hd (fun k o => prefR_all n k l o)
  have PZ := hd (show ∀ k o, prefR n k l o 0 = o from fun k o => by simp [prefR, layA, rndA])
  have OS := hd (show ∀ k, outR l n R (k + 1) = itA (layA n k l) (outR l n R k) n from fun _ => rfl)
  obtain ⟨A, cap, rfl, hcap, hr⟩ := hs
  have hm0 := hr.2.1
  unfold maxLen at hm0
  have HR := hd hr
  obtain ⟨N, hN⟩ : ∃ N, N = l.length := ⟨_, rfl⟩
  rw [← hN] at hl hcap hm0 HR A1 A3 ⊢
  have HN := hd hN
  have hm240 : R * n ≤ 20 * 12 := Nat.mul_le_mul r2 n2
  obtain ⟨m, hmm⟩ : ∃ m, m = R * n := ⟨_, rfl⟩
  rw [← hmm] at hm240 ⊢
  have hmul : (R : Int) * (n : Int) = (m : Int) := by rw [hmm]; push_cast; rfl
  have HMM := hd hmm
  clear hmm ha hab hm hin hr hN
  go_enter Try.func13, Try.ntmps13
  go_wp2_with (first
    | (go_at_call 11; refine A1.out.mono ?_; rintro e w1 ⟨rfl, hb1⟩)
    | (go_at_call 36; refine (A2.out _).mono ?_; rintro e w' ⟨rfl, hw⟩; subst hw)
    | (go_at_call 31; refine (A3.out _ hb1).mono ?_; rintro e w2 ⟨rfl, hb2⟩)
    | (at_make; go_must (refine wpList_make_int _ rfl _ rfl _ _ m rfl rfl (by omega) ?_); intro w3 ho3 hb3))
  clear hmul
  have hb23 : Below w.heap.size w w2 := below_tr hb2 hb1
  have H0 := hd (show w3.ownsRow w2.heap.size 2 1 (.slice (some ⟨w2.heap.size, 0, none⟩) m m) m ((outR l n R 0).map vi) by rw [outR, ← HMM.out]; simpa [vi] using ho3)
  obtain ⟨g0, hg0⟩ : ∃ g0, g0 = w2.heap.size := ⟨_, rfl⟩
  rw [← hg0] at H0 ⊢
  have hgw : w.heap.size ≤ g0 := by rw [hg0]; exact hb23.size
  have hB0 : Below w.heap.size w w3 := below_tr hb3 hb23
  clear ho3 hb1 hb2 hb3 hb23 hg0
  go_loopw [35] (fun ix wr => ∃ k : Nat, k ≤ R ∧ ix = .int .i64 k ∧ wr.ownsRow g0 2 1 (.slice (some ⟨g0, 0, none⟩) m m) m ((outR l n R k).map vi) ∧ Below w.heap.size w wr) (fun ix _ => R - (intOf ix).toNat)
  case atStart => exact ⟨0, by omega, rfl, H0.out, hB0⟩
  case round =>
    clear H0 hB0
    obtain ⟨k, hk, rfl, ho, hb⟩ := hrel
    by_cases hkt : k < R
    · have Ho := hd ho; have Hb := hd hb
      clear ho hb
      have k1 : (k : Int) < (R : Int) := by omega
      go_wp2
      obtain ⟨O, hO⟩ : ∃ O, O = outR l n R k := ⟨_, rfl⟩
      have OLk := OL.out k
      have OSk := OS.out k
      have LFk := LF.out k hkt
      have PBk := hd (fun j i v => PB.out k j i (by omega) v)
      rw [← hO, ← HMM.out] at OLk
      rw [← hO] at Ho OSk LFk PBk
      have HOS := hd OSk
      have HLF := hd LFk
      clear OSk LFk hO
      go_loopw [10] (fun ch wr => ∃ (j : Nat) (c : Bool), ch = .bool c ∧ wr.ownsRow g0 2 1 (.slice (some ⟨g0, 0, none⟩) m m) m ((itA (layA n k l) O j).map vi) ∧ Hid (c = false → rndA (layA n k l) (itA (layA n k l) O j) = itA (layA n k l) O j) ∧ Below w.heap.size w wr) (fun ch wr => if flagV ch = true then ((m : Int) * 120000000000000 - sumC wr g0 m).toNat + 1 else 0)
      case atStart => exact ⟨0, true, rfl, Ho.out, hd (fun h => by cases h), Hb.out⟩
      case round =>
        clear Ho Hb
        obtain ⟨j, c, rfl, ho, hfx, hb⟩ := hrel
        cases c with
        | false =>
          have HE := hd ((stop_same HLF.out (hfx.out rfl)).trans HOS.out.symm)
          rw [HE.out] at ho
          have Ho := hd ho; have Hb := hd hb
          clear ho hb
          go_wp2
          go_roundw
          case rel => exact ⟨k + 1, by omega, by go_num, Ho.out, Hb.out⟩
          case measure => simp [intOf]; omega
        | true =>
          obtain ⟨J, hJ⟩ : ∃ J, J = itA (layA n k l) O j := ⟨_, rfl⟩
          have HIT := hd (show itA (layA n k l) O (j + 1) = prefR n k l J N by rw [itA, ← hJ, HN.out, PALL.out])
          have HSM := hd (sumC_own ho)
          rw [← hJ] at ho HSM
          have PBj := hd (fun i v => PBk.out j i v)
          rw [← hJ] at PBj
          have JL : J.length = m := by rw [hJ, itA_len]; exact OLk
          have HSMB := hd (fun i => (show sumI (prefR n k l J i) ≤ (m : Int) * 120000000000000 by
            have h := sumI_bd (a := prefR n k l J i) (M := 120000000000000) (fun v _ => (PBj.out i v).2)
            rw [PL.out, JL] at h
            exact h))
          have Ho := hd ho; have Hb := hd hb
          have HJ := hd hJ
          clear ho hb hfx hJ
          go_wp2
          go_loopw [10, 41] (fun ch ix wr => ∃ (i : Nat) (c : Bool), i ≤ N ∧ ix = .int .i64 i ∧ ch = .bool c ∧ Hid ((c = false → prefR n k l J i = J) ∧ (c = true → sumI J < sumI (prefR n k l J i))) ∧ wr.ownsRow g0 2 1 (.slice (some ⟨g0, 0, none⟩) m m) m ((prefR n k l J i).map vi) ∧ Below w.heap.size w wr) (fun _ ix _ => N - (intOf ix).toNat)
          case atStart => exact ⟨0, false, by omega, rfl, rfl, hd ⟨fun _ => PZ.out k J, fun h => by cases h⟩, by rw [PZ.out]; exact Ho.out, Hb.out⟩
          case round =>
            obtain ⟨i, c, hi, rfl, rfl, hch, ho, hb⟩ := hrel
            by_cases hit : i < N
            · obtain ⟨x, y, qc, qd, hq, _, hx, hy, ⟨c0, c1⟩, ⟨d0, d1⟩, _⟩ := AG.out i (by rw [← HN.out]; exact hit)
              obtain ⟨D, rfl⟩ : ∃ D : Nat, qd = D := ⟨qd.toNat, by omega⟩
              obtain ⟨bb, off, qa', qb', qc', qd', rfl, hq', e0, e1, e2, e3⟩ := (HR.out.below hb).q4 hit
              have he := Option.some.inj (hq'.out.symm.trans hq)
              simp only [Q4.mk.injEq] at he
              obtain ⟨rfl, rfl, rfl, rfl⟩ := he
              have Ho2 := hd ho; have Hb2 := hd hb
              have gsz : g0 < wr.heap.size := (World.ownsRow.lt ho g0 rfl).2
              have i1 : (0 : Int) ≤ (i : Int) := by omega
              have i2 : (i : Int) < (N : Int) := by omega
              obtain ⟨W, hW⟩ : ∃ W, W = wr.alloc (.cells #[.int .i64 x, .int .i64 y, .int .i64 qc', .int .i64 D] 37) := ⟨_, rfl⟩
              have hbW : Below wr.heap.size wr W := by rw [hW]; exact (Below.refl _ _).alloc (Nat.le_refl _) _
              have HBW := hd hbW
              have K0 := hd (show W.cell? ⟨wr.heap.size, 0, none⟩ = some (.int .i64 x) by rw [hW]; exact (World.cell?_alloc_new ..).trans rfl)
              have K1 := hd (show W.cell? ⟨wr.heap.size, 1, none⟩ = some (.int .i64 y) by rw [hW]; exact (World.cell?_alloc_new ..).trans rfl)
              have K2 := hd (show W.cell? ⟨wr.heap.size, 2, none⟩ = some (.int .i64 qc') by rw [hW]; exact (World.cell?_alloc_new ..).trans rfl)
              have K3 := hd (show W.cell? ⟨wr.heap.size, 3, none⟩ = some (.int .i64 D) by rw [hW]; exact (World.cell?_alloc_new ..).trans rfl)
              have HWW := hd hW
              have how := own_below ho hbW
              have HWO := hd how
              clear ho hb hbW hW
              by_cases hD : D ≤ k
              · have PAi := PA.out k J i _ hq (by show (D : Int) ≤ (k : Int); omega)
                simp only [Int.toNat_natCast] at PAi
                have hsrc : (k - D) * n + x < m := by
                  have h1 : (k - D + 1) * n ≤ R * n := Nat.mul_le_mul_right n (by omega)
                  rw [Nat.add_mul, Nat.one_mul] at h1
                  have := HMM.out
                  omega
                have htgt : k * n + y < m := by
                  have h1 : (k + 1) * n ≤ R * n := Nat.mul_le_mul_right n (by omega)
                  rw [Nat.add_mul, Nat.one_mul] at h1
                  have := HMM.out
                  omega
                obtain ⟨p1, hp1⟩ : ∃ p1, p1 = (k - D) * n := ⟨_, rfl⟩
                obtain ⟨p2, hp2⟩ : ∃ p2, p2 = k * n := ⟨_, rfl⟩
                rw [← hp1, ← hp2] at PAi
                rw [← hp1] at hsrc
                rw [← hp2] at htgt
                have hsub : (k : Int) - (D : Int) = ((k - D : Nat) : Int) := by omega
                have hmul1 : ((k - D : Nat) : Int) * (n : Int) = (p1 : Int) := by rw [hp1]; push_cast; rfl
                have hmul2 : (k : Int) * (n : Int) = (p2 : Int) := by rw [hp2]; push_cast; rfl
                obtain ⟨kd, hkd⟩ : ∃ kd, kd = k - D := ⟨_, rfl⟩
                rw [← hkd] at hsub hmul1
                obtain ⟨s1, hs1⟩ : ∃ s1, s1 = p1 + x := ⟨_, rfl⟩
                obtain ⟨s2, hs2⟩ : ∃ s2, s2 = p2 + y := ⟨_, rfl⟩
                rw [← hs1, ← hs2] at PAi
                rw [← hs1] at hsrc
                rw [← hs2] at htgt
                have hadd1 : (p1 : Int) + (x : Int) = (s1 : Int) := by omega
                have hadd2 : (p2 : Int) + (y : Int) = (s2 : Int) := by omega
                have PLi : (prefR n k l J i).length = m := by rw [PL.out, JL]
                have B1 := PBj.out i s1
                have B2 := PBj.out i s2
                obtain ⟨Z, hZ⟩ : ∃ Z, Z = prefR n k l J i := ⟨_, rfl⟩
                rw [← hZ] at how PAi PLi B1 B2 HWO Ho2 hch
                obtain ⟨ts, hts⟩ : ∃ ts, ts = Z.getD s1 0 := ⟨_, rfl⟩
                obtain ⟨tt, htt⟩ : ∃ tt, tt = Z.getD s2 0 := ⟨_, rfl⟩
                have cs : W.cell? ⟨g0, s1, none⟩ = some (.int .i64 ts) := by
                  rw [how.cellAt s1 (by omega), List.getElem?_map, List.getElem?_eq_getElem (by omega), hts, List.getD_eq_getElem?_getD, List.getElem?_eq_getElem (by omega)]; rfl
                have ct : W.cell? ⟨g0, s2, none⟩ = some (.int .i64 tt) := by
                  rw [how.cellAt s2 (by omega), List.getElem?_map, List.getElem?_eq_getElem (by omega), htt, List.getD_eq_getElem?_getD, List.getElem?_eq_getElem (by omega)]; rfl
                rw [← hts] at B1
                rw [← htt] at B2
                have UPs := hd (fun h => relA_up (t := Z) (s1 := s1) (s2 := s2) (c := qc') h)
                have NOs := hd (fun h => relA_no (t := Z) (s1 := s1) (s2 := s2) (c := qc') h)
                have SSs := hd (fun z h => set_sum (t := Z) (s2 := s2) (z := z) (by rw [PLi]; exact htgt) h)
                rw [← hts, ← htt] at UPs NOs
                rw [← htt] at SSs
                have HPA := hd PAi
                have HZ := hd hZ
                have hDk : (D : Int) ≤ (k : Int) := by omega
                have j1 : (0 : Int) ≤ (s1 : Int) := by omega
                have j2 : (s1 : Int) < (m : Int) := by omega
                have j3 : (0 : Int) ≤ (s2 : Int) := by omega
                have j4 : (s2 : Int) < (m : Int) := by omega
                have b1 : (p1 : Int) ≤ 1000 := by omega
                have b2 : (p2 : Int) ≤ 1000 := by omega
                clear hts htt hZ PAi how PLi hp1 hp2 hkd hs1 hs2 hq hq'
                go_wp2
                rw [← HWW.out]
                clear HWW
                have k0 := K0.out; have k1 := K1.out; have k2 := K2.out; have k3 := K3.out
                obtain ⟨gb, hgb⟩ : ∃ gb, gb = wr.heap.size := ⟨_, rfl⟩
                rw [← hgb] at k0 k1 k2 k3 gsz ⊢
                clear hgb
                have v1 : IntKind.i64.wrap ((k : Int) - (D : Int)) = (kd : Int) := by rw [hsub]; exact IntWalk.i64_in _ (by omega)
                have v2 : IntKind.i64.wrap ((kd : Int) * (n : Int)) = (p1 : Int) := by rw [hmul1]; exact IntWalk.i64_in _ (by omega)
                have v3 : IntKind.i64.wrap ((p1 : Int) + (x : Int)) = (s1 : Int) := by rw [hadd1]; exact IntWalk.i64_in _ (by omega)
                have v4 : IntKind.i64.wrap (ts + qc') = ts + qc' := IntWalk.i64_in _ (by omega)
                have HBW2 := hd (below_tr HBW.out Hb2.out)
                have HCH := hd hch.out
                by_cases hup : tt < ts + qc'
                · have HU := hd (UPs.out hup)
                  have HS := hd (SSs.out _ hup)
                  have t1 := HWO.out
                  go_quiet (fail)
                  clear v1 v2 v3 v4
                  go_wp2_with ((with_reducible refine wpList_store_own _ g0 2 1 m m g0 _ (own_drwN t1 _) size_int s2 (vi (ts + qc')) ?_ ?_ ?_ ?_ ?_); exact rfl; exact rfl; exact rfl; omega; intro w6 ho6 hg6)
                  go_roundw
                  case rel =>
                    refine ⟨i + 1, true, by omega, by go_num, rfl, hd ⟨fun h => (by cases h), fun _ => ?_⟩, ?_, below_row hg6 (below_drewN HBW2.out _) (fun q hq => by cases hq; exact hgw)⟩
                    · rw [HPA.out, HU.out]
                      have := HS.out
                      cases c with
                      | true => have := HCH.out.2 rfl; omega
                      | false => rw [← HCH.out.1 rfl]; exact this
                    · rw [HPA.out, HU.out, List.map_set]
                      exact ho6
                  case measure => simp [intOf]; omega
                · have HU := hd (NOs.out (by omega))
                  go_quiet (fail)
                  clear v1 v2 v3 v4
                  go_wp2
                  go_roundw
                  case rel => exact ⟨i + 1, c, by omega, by go_num, rfl, by rw [HPA.out, HU.out]; exact HCH.out, by rw [HPA.out, HU.out]; exact HWO.out, below_drewN HBW2.out _⟩
                  case measure => simp [intOf]; omega
              · have hDk : ¬ (D : Int) ≤ (k : Int) := by omega
                have HPS := hd (PS.out k J i _ hq (by show (k : Int) < (D : Int); omega))
                clear hq hq'
                go_wp2
                go_roundw
                case rel => exact ⟨i + 1, c, by omega, by go_num, rfl, by rw [HPS.out]; exact hch, by rw [HPS.out, ← HWW.out]; exact HWO.out, by rw [← HWW.out]; exact below_tr HBW.out Hb2.out⟩
                case measure => simp [intOf]; omega
            · have e : i = N := by omega
              subst e
              have Ho2 := hd ho; have Hb2 := hd hb
              clear ho hb
              go_wp2
              go_roundw
              case rel => exact ⟨j + 1, c, rfl, by rw [HIT.out]; exact Ho2.out, hd (fun hc => by rw [HIT.out, hch.out.1 hc]; have e2 := hch.out.1 hc; rw [HN.out, PALL.out] at e2; exact e2), Hb2.out⟩
              case measure =>
                have h1 := sumC_own Ho2.out
                have h2 := HSMB.out i
                have h3 := HSM.out
                cases c with
                | false => simp [flagV]
                | true =>
                  have h4 := hch.out.2 rfl
                  simp only [flagV, if_true]
                  rw [h1]
                  omega
    · have e : k = R := by omega
      subst e
      go_wp2
      go_ret2
      exact ⟨_, rfl, own_mono ho hgw, hb⟩
end Go.Proofs.Ytclkgfcehmmgaaa
