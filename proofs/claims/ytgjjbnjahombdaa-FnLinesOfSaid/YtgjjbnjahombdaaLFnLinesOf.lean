/- Whatever bytes choose tasks of a line and counts of models, the program's LineStations, LeastStations, LineBound, LoadsOfLine, MixedOrder and MixedGap are as the law says: it returns true. No condition. -/
import Derived.Test.YtgjjbnjahombdaaRows
import Derived.Test.YtgjjbnjahombdaaLinC
import Derived.Test.YtgjjbnjahombdaaLinH
import Derived.Test.YtgjjbnjahombdaaLinN
import Derived.Test.YtgjjbnjahombdaaR8T
import Derived.Deep.CutRange
import Derived.Test.YtgjjbnjahombdaaOpen
import Derived.Test.YtgjjbnjahombdaaOpen2
namespace Go.Proofs.Ytgjjbnjahombdaa.lFnLinesOf
open Go.ChangeShapes Go.WideShapes Go.ChangeAt Go.RowKit Go.Proofs.Ytgjjbnjahombdaa Plain
set_option linter.unusedVariables false
set_option linter.unusedSimpArgs false
attribute [local go_sem ↓] Go.wp_at_zero Go.wp_at_succ

/-- what comes before a task, as the law draws it -/
def bfF (x : List Nat) (i : Nat) : Nat := r8F x i 256 &&& (2 ^ i - 1)
theorem bfF_lt (x : List Nat) (i : Nat) : bfF x i < 2 ^ i := by
  have h1 : bfF x i ≤ 2 ^ i - 1 := Nat.and_le_right
  have h2 : 0 < 2 ^ i := Nat.pow_pos (by omega)
  omega
theorem own_fL {w : World} {base e n : Nat} {u : Value} {l : List Int} {f : Nat → Int} (h : w.ownsRow base e 1 u n (l.map vi)) (hl : l.length = n) (hf : ∀ i, i < n → l.getD i 0 = f i) : w.ownsRow base e 1 u n ((fL n f).map vi) := by
  have e9 : l = fL n f := by
    rw [fL_of l, hl]
    exact fL_same hf
  rw [← e9]; exact h
/-- each model as often as it counts, one behind the other: the first L places -/
def BlkI (f : Nat → Nat) (n : Nat) (od : Nat → Nat) (L i k : Nat) : Prop := (∀ j, j < L → od j < n) ∧ ∀ m, cntO od L m = if m < i then f m else if m = i then k else 0
theorem BlkI.step {f : Nat → Nat} {n : Nat} {od : Nat → Nat} {L i k : Nat} (h : BlkI f n od L i k) (hi : i < n) : BlkI f n (fun j => if j = L then i else od j) (L + 1) i (k + 1) := by
  refine ⟨fun j hj => ?_, fun m => ?_⟩
  · simp only
    by_cases e : j = L
    · rw [if_pos e]; exact hi
    · rw [if_neg e]; exact h.1 j (by omega)
  · rw [cntO_succ, if_pos rfl, cntO_same (v := od) fun j hj => by rw [if_neg (by omega)], h.2]
    by_cases e : i = m
    · subst e; rw [if_neg (by omega), if_pos rfl, if_pos rfl, if_neg (by omega), if_pos rfl]
    · rw [if_neg e, Nat.add_zero]
      by_cases h1 : m < i
      · rw [if_pos h1, if_pos h1]
      · rw [if_neg h1, if_neg h1, if_neg (fun h => e h.symm), if_neg (fun h => e h.symm)]
theorem BlkI.next {f : Nat → Nat} {n : Nat} {od : Nat → Nat} {L i : Nat} (h : BlkI f n od L i (f i)) : BlkI f n od L (i + 1) 0 := by
  refine ⟨h.1, fun m => ?_⟩
  rw [h.2]
  by_cases h1 : m < i
  · rw [if_pos h1, if_pos (by omega)]
  · rw [if_neg h1]
    by_cases e : m = i
    · subst e; rw [if_pos rfl, if_pos (by omega)]
    · rw [if_neg e, if_neg (by omega)]
      split <;> rfl
set_option maxHeartbeats 8000000 in
set_option maxRecDepth 100000 in
theorem walk (w : World) (v0 : Value) (x0 : List Nat) (i0 : ∀ x ∈ x0, x < 256) (s0 : Sl w 1 v0 x0.length (bys x0)) (v1 : Value) (x1 : List Nat) (i1 : ∀ x ∈ x1, x < 256) (s1 : Sl w 1 v1 x1.length (bys x1)) :
    Calls Try.prog 3 #[v0, v1] w fun e w' => e = .returned (.bool true) ∧ Below w.heap.size w w' := by
  have L := hd (r8Long_any v0 v1 x0 x1 w s0 s1)
  have AM := hd (fun w' (h : Below w.heap.size w w') k n hn hn2 hk => r8At_any v1 x1 i1 k n hn hn2 hk w' (s1.below h))
  have RB := hd (fun w' (h : Below w.heap.size w w') N M e1 e2 e3 => R8Below_any v1 x1 i1 w' (s1.below h) N M e1 e2 e3)
  have RT := hd (fun w' (h : Below w.heap.size w w') N e1 => R8Times_any v0 x0 i0 w' (s0.below h) N e1)
  clear s0 s1 i0 i1
  go_enter Try.func3, Try.ntmps3
  go_wp2_with fail
  go_at_call 4
  refine L.out.mono ?_; rintro e w' ⟨rfl, hw⟩; replace hw := hw.symm; subst hw
  generalize (decide (48 < x0.length) || decide (48 < x1.length)) = bl
  cases bl with
  | true =>
    go_wp2
    go_ret
    exact ⟨rfl, Below.refl _ _⟩
  | false =>
  clear L
  go_wp2_with fail
  go_at_call 5
  refine (AM.out w (Below.refl _ _) 40 7 (by omega) (by omega) (by omega)).mono ?_; rintro e w' ⟨rfl, hw⟩; replace hw := hw.symm; subst hw
  have hq := r8F_lt x1 40 (n := 7) (by omega)
  generalize r8F x1 40 7 = q0 at *
  obtain ⟨n, hn⟩ : ∃ n : Nat, (n : Int) = 1 + (q0 : Int) := ⟨1 + q0, by push_cast; rfl⟩
  have n1 : 1 ≤ n := by omega
  have n7 : n ≤ 7 := by omega
  have hwn : IntKind.i64.wrap (1 + (q0 : Int)) = (n : Int) := by rw [IntWalk.i64_in _ (by omega), hn]
  clear hn hq
  go_wp2_with fail
  go_at_call 6
  refine (RT.out w (Below.refl _ _) n (by omega)).mono ?_
  rintro e w1 ⟨l, u, rfl, hl, hbd, ho, hb1⟩
  clear hwn RT
  obtain ⟨t, ht⟩ : ∃ t : Nat → Nat, t = fun i => (l.getD i 0).toNat := ⟨_, rfl⟩
  have hlt : ∀ i, i < n → l.getD i 0 = (t i : Int) ∧ 1 ≤ t i ∧ t i ≤ 9 := fun i hi => by
    have hm : l.getD i 0 ∈ l := by
      rw [List.getD_eq_getElem?_getD, List.getElem?_eq_getElem (by omega), Option.getD_some]
      exact List.getElem_mem _
    have := hbd _ hm
    rw [ht]; simp only; omega
  have ho2 := own_fL ho hl (fun i hi => (hlt i hi).1)
  obtain ⟨gT, cT, rfl, _, _⟩ := own_form ho2 n1
  have HT1 := hd (OwnL.fa ho2 (by omega))
  have HTB := hd (fun i hi => (hlt i hi).2)
  have HB1 := hd hb1
  clear ho ho2 hb1 hlt hbd hl ht
  go_wp2_with fail
  have hst := World.ownsRow_made (base := w1.heap.size) (size := 1) w1 #[] 0 (Nat.le_refl _) (by unfold maxLen; omega) rfl (e := 2)
  have HO1 := hd (show (w1.alloc (.cells #[] 2)).ownsRow w1.heap.size 2 1 (.slice (some ⟨w1.heap.size, 0, none⟩) 0 0) 0 ((fL 0 fun i => (bfF x1 i : Int)).map vi) by simpa [fL] using hst)
  have HBa := hd (show Below w1.heap.size w1 (w1.alloc (.cells #[] 2)) from (Below.refl _ _).alloc (Nat.le_refl _) _)
  clear hst
  go_loopw [7, 8] (fun bv iv wr => ∃ i : Nat, i ≤ n ∧ iv = .int .i64 i ∧ Hid (wr.ownsRow w1.heap.size 2 1 bv i ((fL i fun i => (bfF x1 i : Int)).map vi)) ∧ Hid (Below w1.heap.size w1 wr)) (fun _ iv _ => n - (intOf iv).toNat)
  case atStart => exact ⟨0, by omega, rfl, HO1, HBa⟩
  case round =>
    clear HO1 HBa
    obtain ⟨i, hi, rfl, HO, HB⟩ := hrel
    by_cases hlt : i < n
    · have i2 : (i : Int) < (n : Int) := Int.ofNat_lt.2 hlt
      have A1 := hd (AM.out wr (below_tr HB.out HB1.out) i 256 (by omega) (by omega) (by omega))
      have hy := r8F_lt x1 i (n := 256) (by omega)
      have hbe : bfF x1 i = r8F x1 i 256 &&& (2 ^ i - 1) := rfl
      obtain ⟨y, hye⟩ : ∃ y, y = r8F x1 i 256 := ⟨_, rfl⟩
      rw [← hye] at A1 hy hbe
      obtain ⟨J, hJ, eJ, J1, J0⟩ := shl_n i (by omega)
      rw [← hJ] at hbe
      have hw1 : IntKind.i64.wrap (J : Int) = (J : Int) := IntWalk.i64_in _ (by omega)
      have hw2 : IntKind.i64.wrap ((J : Int) - 1) = ((J - 1 : Nat) : Int) := by rw [IntWalk.i64_in _ (by omega)]; omega
      have ba : bits .and .i64 (y : Int) ((J - 1 : Nat) : Int) = (bfF x1 i : Int) := by rw [hbe]; exact i64_and _ _ (by omega) (by omega)
      have hiw : IntKind.u64.wrap (i : Int) = (i : Int) := IntWalk.u64_in _ (by omega)
      have t64 : min i 64 = i := by omega
      have hwi : IntKind.i64.wrap ((i : Int) + 1) = (i : Int) + 1 := IntWalk.i64_in _ (by omega)
      clear hye hbe hJ
      obtain ⟨J', hJ'⟩ : ∃ J', J' = J - 1 := ⟨_, rfl⟩
      rw [← hJ'] at hw2 ba
      clear hJ'
      obtain ⟨bi, hbi⟩ : ∃ bi, bi = bfF x1 i := ⟨_, rfl⟩
      rw [← hbi] at ba
      have HBI := hd hbi
      clear hbi
      go_wp2_with (first
        | (go_at_call 5; refine A1.out.mono ?_; rintro e w' ⟨rfl, hw⟩; replace hw := hw.symm; subst hw)
        | (at_builtin; go_must (refine wpList_app_int _ _ _ rfl _ _ rfl w1.heap.size i _ _ rfl HO.out rfl _ rfl (by simp) (by omega) HB.out.size ?_); intro v' wa ho1 hg1 hap))
      have HO9 := hd (show wa.ownsRow w1.heap.size 2 1 v' (i + 1) ((fL (i + 1) fun i => (bfF x1 i : Int)).map vi) by
        rw [fL_succ, List.map_append, ← HBI.out]; exact ho1)
      have HB9 := hd (below_row hg1 HB.out (fun z e9 => own_row HO.out (Nat.le_refl _) z e9))
      clear ho1 hg1 hap
      go_roundw
      case rel => exact ⟨i + 1, by omega, by go_num, HO9, HB9⟩
      case measure => simp [intOf]; omega
    · obtain rfl : n = i := by omega
      obtain ⟨gF, cF, rfl, _, _⟩ := own_form HO.out n1
      have hq1 := r8F_lt x1 41 (n := 8) (by omega)
      have A41 := hd (AM.out wr (below_tr HB.out HB1.out) 41 8 (by omega) (by omega) (by omega))
      generalize r8F x1 41 8 = q1 at *
      obtain ⟨c, hc⟩ : ∃ c : Nat, (c : Int) = 9 + (q1 : Int) := ⟨9 + q1, by push_cast; rfl⟩
      have c9 : 9 ≤ c := by omega
      have c16 : c ≤ 16 := by omega
      have hwc : IntKind.i64.wrap (9 + (q1 : Int)) = (c : Int) := by rw [IntWalk.i64_in _ (by omega), hc]
      have HP := hd (show LineP n c t (bfF x1) from ⟨n1, by omega, fun i hi => (HTB.out i hi).1, fun i hi => by have := (HTB.out i hi).2; omega, by omega, fun i _ => bfF_lt x1 i⟩)
      have HT := hd (HT1.out.below HB.out)
      have HF := hd (OwnL.fa HO.out (by omega))
      have HBW := hd (below_tr HB.out HB1.out)
      clear hc hq1 HT1 HO HB HB1
      obtain ⟨bf, hbf⟩ : ∃ bf, bf = bfF x1 := ⟨_, rfl⟩
      rw [show (fun i => (bfF x1 i : Int)) = fun i => (bf i : Int) by rw [hbf]] at HF
      rw [← hbf] at HP
      clear hbf
      obtain ⟨wA, hwA⟩ : ∃ wA, wA = wr := ⟨_, rfl⟩
      subst hwA
      have TB := hd (fun i (hi : i < n) => (show 1 ≤ t i ∧ t i ≤ 10000 from by have := HTB.out i hi; omega))
      have LS := hd (fun w' (h : Below wA.heap.size wA w') => LineStations_any gT 0 cT gF 0 cF n c t bf w' (HT.out.below h) (HF.out.below h) HP.out)
      have LE := hd (fun w' (h : Below wA.heap.size wA w') => LeastStations_any gT 0 cT gF 0 cF n c t bf w' (HT.out.below h) (HF.out.below h) HP.out)
      have LBD := hd (fun w' (h : Below wA.heap.size wA w') => LineBound_any gT 0 cT n c t w' (HT.out.below h) n1 (by omega) TB.out (by omega) (by omega))
      have LO := hd (fun w' (h : Below wA.heap.size wA w') b2 o2 cp2 K A h2 hA hK K12 => LoadsOfLine_any gT 0 cT b2 o2 cp2 n K t A w' (HT.out.below h) h2 n1 (by omega) TB.out hA hK K12)
      have IL := hd (fun w' (h : Below wA.heap.size wA w') => IsLine_any gT 0 cT gF 0 cF n c t bf w' (HT.out.below h) (HF.out.below h) HP.out)
      go_wp2_with fail
      go_at_call 5
      refine A41.out.mono ?_; rintro e w' ⟨rfl, hw⟩; replace hw := hw.symm; subst hw
      go_wp2_with fail
      go_at_call 7
      refine (LS.out wA (Below.refl _ _)).mono ?_
      rintro e w2 ⟨⟨g1, K1, cap1, A1, rfl, hfull, ho1⟩, hb2⟩
      have B2 := hd hb2
      have F1 := hd hfull
      have R1 := hd (OwnL.fa ho1 (by omega))
      clear hwc A41 LS hfull ho1 hb2
      go_wp2_with fail
      go_at_call 8
      refine (LE.out w2 B2.out).mono ?_
      rintro e w3 ⟨⟨g2, K, A2, rfl, hfeas, hK12, hleast, ho2⟩, hb3⟩
      have B3 := hd (below_tr hb3 B2.out)
      have R1' := hd (R1.out.below hb3)
      have R2 := hd (OwnL.fa ho2 (by omega))
      have F2 := hd hfeas
      have HLE := hd hleast
      have K1n := full_le F1.out.1.1 F1.out.2.1
      have hKK1 := HLE.out K1 A1 F1.out.1
      have NE2 := hd (fun s (hs : s < K) => no_empty (fun i hi => HP.out.t1 i hi) HLE.out n1 (fun i hi k hk => by have := bit_lt (HP.out.bl i hi) hk; omega) F2.out hs)
      have hK0 : 0 < K := by have := F2.out.1 0 n1; omega
      have HKL := hd (show ∃ i, i < n ∧ A2 i = K - 1 by
        obtain ⟨i, hi, hb⟩ := ldN_some (NE2.out (K - 1) (by omega))
        exact ⟨i, hi, by simpa using hb⟩)
      have hbnd := bound_le (s := sumN t n) (c := c) (K := K) (by omega) (feas_total F2.out)
      clear LE hfeas hleast ho2 hb3 B2 R1
      obtain ⟨bd, hbde⟩ : ∃ bd, bd = (sumN t n + c - 1) / c := ⟨_, rfl⟩
      rw [← hbde] at hbnd LBD
      clear hbde
      go_wp2_with fail
      go_at_call 9
      refine (LBD.out w3 B3.out).mono ?_; rintro e w' ⟨rfl, hw⟩; replace hw := hw.symm; subst hw
      clear LBD
      go_wp2_with fail
      go_at_call 10
      refine (LO.out w3 B3.out g2 0 n K A2 R2.out F2.out.1 HKL.out hK12).mono ?_
      rintro e w4 ⟨⟨g3, rfl, ho3⟩, hb4⟩
      have B4 := hd (below_tr hb4 B3.out)
      have R1'' := hd (R1'.out.below hb4)
      have R2'' := hd (R2.out.below hb4)
      have O3 := hd (OwnL.fa ho3 (by omega))
      clear ho3 hb4 B3 R1' R2 HKL
      go_wp2_with fail
      go_at_call 10
      refine (LO.out w4 B4.out g1 0 cap1 K1 A1 R1''.out F1.out.1.1 F1.out.2.2 (by omega)).mono ?_
      rintro e w5 ⟨⟨g4, rfl, ho4⟩, hb5⟩
      have B5 := hd (below_tr hb5 B4.out)
      have R1 := hd (R1''.out.below hb5)
      have R2 := hd (R2''.out.below hb5)
      have O3' := hd (O3.out.below hb5)
      have O4 := hd (OwnL.fa ho4 (by omega))
      clear ho4 hb5 B4 R1'' R2'' O3 LO
      have hnn : ((n : Int) != (n : Int)) = false := by simp
      have hKKb : ((K : Int) != (K : Int)) = false := by simp
      have hbk : decide ((K : Int) < (bd : Int)) = false := decide_eq_false (by omega)
      have hbk2 : decide (K < bd) = false := decide_eq_false (by omega)
      have hkk : decide ((K1 : Int) < (K : Int)) = false := decide_eq_false (by omega)
      have hkk2 : decide (K1 < K) = false := decide_eq_false (by omega)
      go_wp2_with (go_at_call 11; refine (IL.out w5 B5.out).mono ?_; rintro e w' ⟨rfl, hw⟩; replace hw := hw.symm; subst hw)
      clear hnn hKKb hbk hbk2 hkk hkk2 IL
      go_loopw [21] (fun iv wr => ∃ k : Nat, k ≤ K ∧ iv = .int .i64 k ∧ wr = w5) (fun iv _ => K - (intOf iv).toNat)
      case atStart => exact ⟨0, by omega, rfl, rfl⟩
      case round =>
        obtain ⟨k, hk, rfl, hw⟩ := hrel
        subst hw
        by_cases hlt : k < K
        · have k2 : (k : Int) < (K : Int) := Int.ofNat_lt.2 hlt
          have c1 := O3'.out.cl k hlt
          rw [Nat.zero_add] at c1
          have h1 := NE2.out k hlt
          have h2 := F2.out.2.2 k
          generalize ldN (fun i => A2 i == k) t n = x at *
          have d1 : ¬ (x : Int) < 1 := by omega
          have d2 : ¬ (x : Int) > (c : Int) := by omega
          go_wp2
          go_roundw
          case rel => exact ⟨k + 1, by omega, by go_num, by first | rfl | trivial⟩
          case measure => simp [intOf]; omega
        · obtain rfl : K = k := by omega
          go_wp2
          go_loopw [22] (fun iv wr2 => ∃ k : Nat, k ≤ K1 ∧ iv = .int .i64 k ∧ wr2 = wr) (fun iv _ => K1 - (intOf iv).toNat)
          case atStart => exact ⟨0, by omega, rfl, rfl⟩
          case round =>
            obtain ⟨k, hk, rfl, hw⟩ := hrel
            subst hw
            by_cases hlt : k < K1
            · have k2 : (k : Int) < (K1 : Int) := Int.ofNat_lt.2 hlt
              have c1 := O4.out.cl k hlt
              rw [Nat.zero_add] at c1
              have h1 := F1.out.2.1 k hlt
              have h2 := F1.out.1.2.2 k
              generalize ldN (fun i => A1 i == k) t n = x at *
              have d1 : ¬ (x : Int) < 1 := by omega
              have d2 : ¬ (x : Int) > (c : Int) := by omega
              go_wp2
              go_roundw
              case rel => exact ⟨k + 1, by omega, by go_num, by first | rfl | trivial⟩
              case measure => simp [intOf]; omega
            · obtain rfl : K1 = k := by omega
              go_wp2
              obtain ⟨wB, hwB⟩ : ∃ wB, wB = wr := ⟨_, rfl⟩
              subst hwB
              clear O3' O4 NE2
              go_loopw [23] (fun iv wr => ∃ i q : Nat, i ≤ n ∧ iv = .int .i64 i ∧ wr = wB.drewN q) (fun iv _ => n - (intOf iv).toNat)
              case atStart => exact ⟨0, 0, by omega, rfl, rfl⟩
              case round =>
                obtain ⟨i, q, hi, rfl, hw⟩ := hrel
                subst hw
                by_cases hin : i < n
                · have i2 : (i : Int) < (n : Int) := Int.ofNat_lt.2 hin
                  go_wp2
                  go_loopw [24] (fun kv wr => ∃ k q2 : Nat, k ≤ i ∧ kv = .int .i64 k ∧ wr = wB.drewN q2) (fun kv _ => i - (intOf kv).toNat)
                  case atStart => exact ⟨0, q, by omega, rfl, rfl⟩
                  case round =>
                    obtain ⟨k, q2, hk, rfl, hw⟩ := hrel
                    subst hw
                    by_cases hki : k < i
                    · have k2 : (k : Int) < (i : Int) := Int.ofNat_lt.2 hki
                      have k3 : (k : Int) < (n : Int) := by omega
                      have cF := (HF.out.below B5.out).cl i hin
                      have cR1k := R1.out.cl k (by omega)
                      have cR1i := R1.out.cl i hin
                      have cR2k := R2.out.cl k (by omega)
                      have cR2i := R2.out.cl i hin
                      rw [Nat.zero_add] at cF cR1k cR1i cR2k cR2i
                      have hbl := HP.out.bl i hin
                      have hp12 := pow_le12 (n := i) (by omega)
                      have E := i64_bit' (bf i) k (by omega) (by omega)
                      have t64 : min k 64 = k := by omega
                      have hk64 : (k : Int) < 64 := by omega
                      have hkw : IntKind.u64.wrap (k : Int) = (k : Int) := IntWalk.u64_in _ (by omega)
                      have hwk : IntKind.i64.wrap ((k : Int) + 1) = (k : Int) + 1 := IntWalk.i64_in _ (by omega)
                      have h1 := F1.out.1.2.1 i hin k
                      have h2 := F2.out.2.1 i hin k
                      generalize A1 k = a1k at *
                      generalize A1 i = a1i at *
                      generalize A2 k = a2k at *
                      generalize A2 i = a2i at *
                      generalize bf i = x at *
                      cases hbit : x.testBit k with
                      | false =>
                        rw [hbit, if_neg (by simp)] at E
                        clear hbit h1 h2 hbl hp12
                        have HWK := hd hwk
                        clear hwk
                        go_wp2_with fail
                        go_quiet (fail)
                        clear cF cR1k cR1i cR2k cR2i E t64 hk64 hkw
                        have hwk := HWK.out
                        go_wp2
                        go_roundw
                        case rel => exact ⟨k + 1, q2 + nq, by omega, by go_num, by first | rfl | rw [World.drewN_drewN]⟩
                        case measure => simp [intOf]; omega
                      | true =>
                        rw [hbit, if_pos rfl] at E
                        have h1' := h1 hbit
                        have h2' := h2 hbit
                        have d1 : decide ((a1i : Int) < (a1k : Int)) = false := decide_eq_false (by omega)
                        have d2 : decide ((a2i : Int) < (a2k : Int)) = false := decide_eq_false (by omega)
                        have d1n : decide (a1i < a1k) = false := decide_eq_false (by omega)
                        have d2n : decide (a2i < a2k) = false := decide_eq_false (by omega)
                        clear hbit h1 h2 hbl hp12 h1' h2'
                        have HWK := hd hwk
                        clear hwk
                        go_wp2_with fail
                        go_quiet (fail)
                        clear cF cR1k cR1i cR2k cR2i E t64 hk64 hkw d1 d2 d1n d2n
                        have hwk := HWK.out
                        go_wp2
                        go_roundw
                        case rel => exact ⟨k + 1, q2 + nq, by omega, by go_num, by first | rfl | rw [World.drewN_drewN]⟩
                        case measure => simp [intOf]; omega
                    · obtain rfl : i = k := by omega
                      have hwi : IntKind.i64.wrap ((i : Int) + 1) = (i : Int) + 1 := IntWalk.i64_in _ (by omega)
                      go_wp2
                      go_roundw
                      case rel => exact ⟨i + 1, q2, by omega, by go_num, by first | rfl | trivial⟩
                      case measure => simp [intOf]; omega
                · obtain rfl : n = i := by omega
                  have hq42 := r8F_lt x1 42 (n := 5) (by omega)
                  obtain ⟨wC, hwC⟩ : ∃ wC, wC = wB.drewN q := ⟨_, rfl⟩
                  have HBC := hd (show Below w.heap.size w wC by rw [hwC]; exact below_tr (below_drewN B5.out q) HBW.out)
                  rw [← hwC]
                  clear hwC F1 F2 R1 R2 HT HF HP TB HTB B5 HBW HLE K1n hKK1 hbnd
                  have A42 := hd (AM.out wC HBC.out 42 5 (by omega) (by omega) (by omega))
                  generalize r8F x1 42 5 = q2 at *
                  obtain ⟨nm, hnm⟩ : ∃ nm : Nat, (nm : Int) = 1 + (q2 : Int) := ⟨1 + q2, by push_cast; rfl⟩
                  have m1 : 1 ≤ nm := by omega
                  have m5 : nm ≤ 5 := by omega
                  have hwm : IntKind.i64.wrap (1 + (q2 : Int)) = (nm : Int) := by rw [IntWalk.i64_in _ (by omega), hnm]
                  clear hnm hq42
                  go_wp2_with fail
                  go_at_call 5
                  refine A42.out.mono ?_; rintro e w' ⟨rfl, hw⟩; replace hw := hw.symm; subst hw
                  go_wp2_with fail
                  go_at_call 12
                  refine (RB.out wC HBC.out nm 6 (by omega) (by omega) (by omega)).mono ?_
                  rintro e wD ⟨lc, u, rfl, hl, hbd, ho, hbD⟩
                  clear hwm RB A42
                  obtain ⟨f0, hf0⟩ : ∃ f0 : Nat → Nat, f0 = fun i => (lc.getD i 0).toNat := ⟨_, rfl⟩
                  have hlf : ∀ i, i < nm → lc.getD i 0 = (f0 i : Int) ∧ f0 i ≤ 5 := fun i hi => by
                    have hm : lc.getD i 0 ∈ lc := by
                      rw [List.getD_eq_getElem?_getD, List.getElem?_eq_getElem (by omega), Option.getD_some]
                      exact List.getElem_mem _
                    have := hbd _ hm
                    rw [hf0]; simp only; omega
                  have ho2 := own_fL ho hl (fun i hi => (hlf i hi).1)
                  obtain ⟨gC, cC, rfl, hgC, _⟩ := own_form ho2 m1
                  have HOD := hd (show OwnL wD wC.heap.size gC nm cC (fun i => (f0 i : Int)) from ho2)
                  have HF0 := hd (fun i hi => (hlf i hi).2)
                  have HBD := hd (below_tr hbD HBC.out)
                  have HGC := hd (show w.heap.size ≤ gC from Nat.le_trans HBC.out.size hgC)
                  clear ho ho2 hbD hlf hbd hl hf0 hgC HBC
                  have c0 := HOD.out.at (i := 0) (by omega)
                  obtain ⟨f00, hf00⟩ : ∃ f00, f00 = f0 0 := ⟨_, rfl⟩
                  rw [← hf00] at c0
                  have hf5 := HF0.out 0 (by omega)
                  rw [← hf00] at hf5
                  have HF00 := hd hf00
                  have hw00 : IntKind.i64.wrap ((f00 : Int) + 1) = (f00 : Int) + 1 := IntWalk.i64_in _ (by omega)
                  have hm0 : (0 : Int) < (nm : Int) := by omega
                  clear hf00
                  go_wp2_with ((with_reducible refine wpList_store_own _ wC.heap.size 2 1 nm cC gC _ HOD.out size_int 0 (.int .i64 ((f00 : Int) + 1)) ?_ ?_ ?_ ?_ ?_); exact rfl; exact rfl; exact rfl; omega; intro wE hoE hgE; have HOEx := hd hoE; have HGEx := hd hgE; clear hoE hgE)
                  obtain ⟨f, hf⟩ : ∃ f : Nat → Nat, f = fun i => if i = 0 then f00 + 1 else f0 i := ⟨_, rfl⟩
                  have HOE := hd (show OwnL wE wC.heap.size gC nm cC (fun i => (f i : Int)) from (OwnL.set HOEx.out (by omega)).same fun i _ => by
                    rw [hf]; simp only
                    by_cases e : i = 0
                    · rw [if_pos e, if_pos e]; push_cast; rfl
                    · rw [if_neg e, if_neg e])
                  have hf6 : ∀ i, i < nm → f i ≤ 6 := fun i hi => by
                    have := HF0.out i hi
                    rw [hf]; simp only
                    split <;> omega
                  have hf01 : 1 ≤ f 0 := by rw [hf]; simp
                  have hsum : 1 ≤ sumN f nm ∧ sumN f nm ≤ 6 * nm := by
                    have h1 : ∀ k, k ≤ nm → sumN f k ≤ 6 * k := fun k => by
                      induction k with
                      | zero => intro _; simp [sumN]
                      | succ k ih => intro hk; have := ih (by omega); have := hf6 k (by omega); rw [sumN]; omega
                    have h2 : ∀ k, 1 ≤ sumN f (k + 1) := fun k => by
                      induction k with
                      | zero => rw [sumN, sumN]; omega
                      | succ k ih => rw [sumN]; omega
                    have h3 := h2 (nm - 1)
                    rw [show nm - 1 + 1 = nm by omega] at h3
                    exact ⟨h3, h1 nm (Nat.le_refl _)⟩
                  obtain ⟨N, hN⟩ : ∃ N, N = sumN f nm := ⟨_, rfl⟩
                  rw [← hN] at hsum
                  have HNE := hd hN
                  have HCP := hd (show CntP nm N f from ⟨m1, by omega, fun i hi => by have := hf6 i hi; omega, hN.symm, hsum.1, by omega⟩)
                  have HBE := hd (HBD.out.grown HGEx.out HBD.out.size (fun z e => by cases e; exact HGC.out))
                  have HFE := hd (OwnL.fa HOE.out (by omega))
                  have HF6 := hd hf6
                  obtain ⟨Nlo, Nhi⟩ := hsum
                  have hN30 : N ≤ 30 := by omega
                  clear HOEx HGEx HOD HF0 HF00 hf hf6 hf01 hN c0 hf5 hw00 hm0 HBD HOE HGC
                  have MO := hd (MixedOrder_any gC 0 cC nm N f wE HFE.out HCP.out)
                  have MG := hd (fun w' (h : Below wE.heap.size wE w') b2 o2 cp2 od h2 hod hall => MixedGap_any gC 0 cC b2 o2 cp2 nm N f od w' (HFE.out.below h) h2 HCP.out hod hall)
                  go_at_call 13
                  refine MO.out.mono ?_
                  rintro e wF ⟨⟨gM, cM, od, rfl, hmix, hoM⟩, hbF⟩
                  have HMX := hd hmix
                  have HOM := hd (OwnL.fa hoM (by omega))
                  have HB6 := hd hbF
                  clear MO hmix hoM hbF
                  go_wp2_with fail
                  go_at_call 14
                  refine (MG.out wF HB6.out gM 0 cM od HOM.out HMX.out.lt (fun i hi => HMX.out.all HCP.out.sum hi)).mono ?_
                  rintro e wG ⟨⟨gp, rfl, hgp0, hgp⟩, hbG⟩
                  have HB7 := hd (below_tr hbG HB6.out)
                  have hgp1 : gp ≤ (N : Int) * (nm : Int) := by
                    rcases hgp with h | ⟨k', i', h1, h2, h3⟩
                    · rw [h]; exact Int.mul_nonneg (by omega) (by omega)
                    · have := HMX.out.up HCP.out.sum h1 h2
                      omega
                  clear hgp hbG HB6 HOM HMX
                  have hst := World.ownsRow_made (base := wG.heap.size) (size := 1) wG #[] 0 (Nat.le_refl _) (by unfold maxLen; omega) rfl (e := 2)
                  have HO0 := hd (show (wG.alloc (.cells #[] 2)).ownsRow wG.heap.size 2 1 (.slice (some ⟨wG.heap.size, 0, none⟩) 0 0) (sumN f 0) ((fL (sumN f 0) fun i => (((fun _ => 0 : Nat → Nat) i : Nat) : Int)).map vi) by simpa [fL, sumN] using hst)
                  have HBa := hd (show Below wG.heap.size wG (wG.alloc (.cells #[] 2)) from (Below.refl _ _).alloc (Nat.le_refl _) _)
                  have S0 := hd (show sumN f 0 = 0 from rfl)
                  have SS := hd (fun i => (show sumN f (i + 1) = sumN f i + f i from rfl))
                  have SB := hd (fun i (hi : i ≤ nm) => (show sumN f i ≤ 6 * i by
                    induction i with
                    | zero => simp [sumN]
                    | succ k ih => have := ih (by omega); have := HF6.out k (by omega); rw [sumN]; omega))
                  have BK0 := hd (show BlkI f nm (fun _ => 0) (sumN f 0) 0 0 from ⟨fun j hj => by simp [sumN] at hj, fun m => by simp [cntO, ldN, sumN]⟩)
                  clear hst
                  go_wp2_with fail
                  go_loopw [30, 31, 32] (fun sv bv iv wr => ∃ (i : Nat) (od : Nat → Nat), i ≤ nm ∧ iv = .int .i64 i ∧ sv = .int .i64 (sumN f i : Nat) ∧ Hid (BlkI f nm od (sumN f i) i 0) ∧ Hid (wr.ownsRow wG.heap.size 2 1 bv (sumN f i) ((fL (sumN f i) fun j => (od j : Int)).map vi)) ∧ Hid (Below wG.heap.size wG wr)) (fun _ _ iv _ => nm - (intOf iv).toNat)
                  case atStart => exact ⟨0, fun _ => 0, by omega, rfl, by rw [S0.out]; rfl, BK0, HO0, HBa⟩
                  case round =>
                    clear HO0 HBa BK0
                    obtain ⟨i, od, hi, rfl, rfl, HK, HO, HB⟩ := hrel
                    by_cases hin : i < nm
                    · have i2 : (i : Int) < (nm : Int) := Int.ofNat_lt.2 hin
                      have CI := hd (fun w' (h : Below wG.heap.size wG w') => by
                        have := (HFE.out.below (below_tr h HB7.out)).cl i hin
                        rw [Nat.zero_add] at this
                        exact this)
                      have ci := CI.out wr HB.out
                      have ss := SS.out i
                      have sb := SB.out (i + 1) (by omega)
                      have f6 := HF6.out i hin
                      obtain ⟨si, hsi⟩ : ∃ si, si = sumN f i := ⟨_, rfl⟩
                      rw [← hsi] at ss HK HO
                      obtain ⟨fi, hfi⟩ : ∃ fi, fi = f i := ⟨_, rfl⟩
                      rw [← hfi] at ci ss f6
                      have hw1 : IntKind.i64.wrap ((si : Int) + (fi : Int)) = ((sumN f (i + 1) : Nat) : Int) := by rw [ss]; rw [IntWalk.i64_in _ (by omega)]; push_cast; rfl
                      have HSI := hd hsi
                      have HFI := hd hfi
                      have HSS := hd ss
                      have hsi30 : si + fi ≤ 30 := by omega
                      obtain ⟨s1, hs1⟩ : ∃ s1, s1 = sumN f (i + 1) := ⟨_, rfl⟩
                      rw [← hs1] at hw1
                      have HS1 := hd hs1
                      rw [← HSI.out]
                      clear hsi hfi ss sb hs1
                      go_wp2_with fail
                      clear hw1 ci
                      obtain ⟨wH, hwH⟩ : ∃ wH, wH = wr := ⟨_, rfl⟩
                      subst hwH
                      go_loopw [31, 33] (fun bv kv wr => ∃ (k : Nat) (od : Nat → Nat), k ≤ fi ∧ kv = .int .i64 k ∧ Hid (BlkI f nm od (si + k) i k) ∧ Hid (wr.ownsRow wG.heap.size 2 1 bv (si + k) ((fL (si + k) fun j => (od j : Int)).map vi)) ∧ Hid (Below wG.heap.size wG wr)) (fun _ kv _ => fi - (intOf kv).toNat)
                      case atStart => exact ⟨0, od, by omega, rfl, HK, HO, HB⟩
                      case round =>
                        clear HK HO HB
                        obtain ⟨k, od, hk, rfl, HK, HO, HB⟩ := hrel
                        have ci := CI.out wr HB.out
                        rw [← HFI.out] at ci
                        have hwk : IntKind.i64.wrap ((k : Int) + 1) = (k : Int) + 1 := IntWalk.i64_in _ (by omega)
                        by_cases hkf : k < fi
                        · have k2 : (k : Int) < (fi : Int) := Int.ofNat_lt.2 hkf
                          have hln : si + k ≤ 30 := by omega
                          go_wp2_with (at_builtin; go_must (refine wpList_app_int _ _ _ rfl _ _ rfl wG.heap.size (si + k) _ _ rfl HO.out rfl _ rfl (by simp) (by omega) HB.out.size ?_); intro v' wa ho1 hg1 hap)
                          have HO9 := hd (show wa.ownsRow wG.heap.size 2 1 v' (si + (k + 1)) ((fL (si + (k + 1)) fun j => (((if j = si + k then i else od j) : Nat) : Int)).map vi) by
                            rw [← Nat.add_assoc, fL_succ, List.map_append, fL_same (v := fun j => (od j : Int)) fun j hj => by rw [if_neg (by omega)]]
                            simp only [if_true, List.map_cons, List.map_nil]
                            exact ho1)
                          have HB9 := hd (below_row hg1 HB.out (fun z e9 => own_row HO.out (Nat.le_refl _) z e9))
                          have HK9 := hd (HK.out.step hin)
                          clear ho1 hg1 hap ci
                          go_roundw
                          case rel => exact ⟨k + 1, _, by omega, by go_num, HK9, HO9, HB9⟩
                          case measure => simp [intOf]; omega
                        · obtain rfl : fi = k := by omega
                          have k2 : ¬ (fi : Int) < (fi : Int) := by omega
                          have HKN := hd (show BlkI f nm od s1 (i + 1) 0 by
                            rw [HS1.out, HSS.out]
                            have := HK.out
                            rw [HFI.out] at this ⊢
                            exact this.next)
                          have HON := hd (show wr.ownsRow wG.heap.size 2 1 _ s1 ((fL s1 fun j => (od j : Int)).map vi) by rw [HS1.out, HSS.out]; exact HO.out)
                          go_wp2
                          go_roundw
                          case rel => exact ⟨i + 1, od, by omega, by go_num, by rw [← HS1.out], by rw [← HS1.out]; exact HKN, by rw [← HS1.out]; exact HON, HB⟩
                          case measure => simp [intOf]; omega
                    · obtain rfl : nm = i := by omega
                      have hNe := HNE.out
                      rw [← hNe] at HK HO
                      rw [← HNE.out]
                      obtain ⟨gZ, cZ, rfl, _, _⟩ := own_form HO.out Nlo
                      have HZ := hd (OwnL.fa HO.out (by omega))
                      have HB8 := hd (below_tr HB.out HB7.out)
                      have hprod : 0 ≤ (N : Int) * (nm : Int) ∧ (N : Int) * (nm : Int) ≤ 30 * 5 := ⟨Int.mul_nonneg (by omega) (by omega), Int.mul_le_mul (by omega) (by omega) (by omega) (by omega)⟩
                      have hwp : IntKind.i64.wrap ((N : Int) * (nm : Int)) = (N : Int) * (nm : Int) := IntWalk.i64_in _ (by omega)
                      have hNN : ((N : Int) == (N : Int)) = true := by simp
                      have MG2 := hd (MG.out wr HB8.out gZ 0 cZ od HZ.out HK.out.1 (fun m hm => by
                        have := HK.out.2 m
                        rw [if_pos hm] at this; exact this))
                      have HBF := hd (below_tr HB8.out HBE.out)
                      clear hNe hprod MG HK HO HB HZ S0 SS SB
                      go_wp2_with fail
                      go_at_call 14
                      refine MG2.out.mono ?_
                      rintro e wZ ⟨⟨gq, rfl, hgq0, _⟩, hbZ⟩
                      have HBL := hd (below_tr hbZ HBF.out)
                      clear hbZ
                      go_wp2
                      go_ret
                      exact ⟨rfl, HBL.out⟩

theorem own : ownKnob Try.prog.godebug = none := by kernel_rfl
theorem laidOut : laidOutB Try.prog = true := by kernel_rfl

set_option maxRecDepth 100000 in
theorem lifted (os : Os) (started : os.Started) (H : Type) (enc : TypeId × Value → H) :
    ReturnsInHanded {} Try.checked os 3 .any (Rows.fnLinesOfSpec.pre6 enc Try.prog Try.f3 Rows.fnLinesOfRow.domain false) (Rows.fnLinesOfSpec.post enc Try.prog Try.f3 false true false false) := by
  refine returnsInHanded_of_change (C := Try.checked) own started (by as_aux_lemma => kernel_rfl) Try.func3
    (ChangeSpec.witness6 (enc := enc) (C := Try.checked) false ⟨#[], #[.slice none 0 0, .slice none 0 0], []⟩ 8 (by as_aux_lemma => kernel_rfl) (by as_aux_lemma => kernel_rfl) (by as_aux_lemma => kernel_rfl) (by as_aux_lemma => kernel_rfl)) ?_
  intro W base args ds gs before hval0 hW hcnd _
  have hval : ∀ (j : Nat) t v, Try.f3.params[j]? = some t → args[j]? = some v → Value.okWide Try.prog W .any base t v := hval0
  have hW' := hW
  obtain ⟨p, q, hA0, hV, rfl, hfz, hnd⟩ := hW
  have hA : DataW.TrodAll enc Try.prog W 0 (fun _ => true) true Try.f3.params.toList args.toList ds p := hA0
  rw [Try.params3] at hA hval
  obtain ⟨v0, vs0, d0, ds0, p0, q0, hargs, rfl, rfl, h0, r0⟩ := trodAll_cons hA
  obtain ⟨v1, vs1, d1, ds1, p1, q1, rfl, rfl, rfl, h1, r1⟩ := trodAll_cons r0
  obtain ⟨rfl, rfl, rfl⟩ := trodAll_nil r1
  obtain rfl : args = #[v0, v1] := by cases args; simp_all
  obtain ⟨rfl, rfl⟩ := trodVars_none hV
  have k0 := h0
  have lt0 : ∀ x ∈ p0, x.block < W.heap.size := by obtain ⟨m, hm⟩ := k0; exact DataW.trod_lt m _ _ _ hm
  obtain ⟨s0, len0, cap0, rfl⟩ := okWide_slice Try.underlying22 (hval 0 22 v0 rfl rfl)
  obtain ⟨x0, _, i0, w0⟩ := arg_bytes Try.underlying22 Try.underlying5 (by as_aux_lemma => kernel_rfl) h0
  have k1 := h1
  have lt1 : ∀ x ∈ p1, x.block < W.heap.size := by obtain ⟨m, hm⟩ := k1; exact DataW.trod_lt m _ _ _ hm
  obtain ⟨s1, len1, cap1, rfl⟩ := okWide_slice Try.underlying22 (hval 1 22 v1 rfl rfl)
  obtain ⟨x1, _, i1, w1⟩ := arg_bytes Try.underlying22 Try.underlying5 (by as_aux_lemma => kernel_rfl) h1
  clear hA0 hval0
  refine (walk W _ x0 i0 w0 _ x1 i1 w1).mono fun e W' ⟨he, bel⟩ => ?_
  subst he
  exact ⟨_, rfl, _, _, _, [], _, [], hW', trodAll_mk1 (shut_bool Try.underlying4 _), (trodAll_cons_mk (Below.trod laidOut (by as_aux_lemma => kernel_rfl) (of_decide_eq_true (by as_aux_lemma => kernel_rfl)) k0 bel lt0) (trodAll_cons_mk (Below.trod laidOut (by as_aux_lemma => kernel_rfl) (of_decide_eq_true (by as_aux_lemma => kernel_rfl)) k1 bel lt1) (trodAll_mk0))), rfl, bel.frame _, fun h => by cases h⟩

/-- The given statement. -/
theorem proved : Rows.FnLinesOfSaid :=
  OpenClaim.holds_of_wide 3 Try.f3 rfl rfl rfl rfl rfl rfl rfl ⟨rfl, rfl, rfl, rfl, rfl⟩ rfl rfl rfl rfl rfl (by kernel_rfl) Try.func3 (by kernel_rfl)
    (of_decide_eq_true (by kernel_rfl)) (by unfold Func.isWrapper; first | (rw [if_pos (by decide +kernel)]; kernel_rfl) | (rw [if_neg (by decide +kernel)]; exact ⟨rfl, rfl⟩))
    (fun os started H enc _ => lifted os started H enc)
#print axioms proved

end Go.Proofs.Ytgjjbnjahombdaa.lFnLinesOf
