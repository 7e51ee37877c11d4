/- The search for the fewest stations: the closure, a contract by induction. -/
import Derived.Test.YtgjjbnjahombdaaLinF
import Derived.Deep.RegionWith
import Derived.Deep.RegionHeld3
import Derived.StillTailTactics
namespace Go.Proofs.Ytgjjbnjahombdaa
open Go.RowKit Plain
set_option linter.unusedVariables false
set_option linter.unusedSimpArgs false
attribute [local go_sem ↓] Go.wp_at_zero Go.wp_at_succ
theorem run_max_l (ts : Array TypeId) (t : TypeId) (a b : Int) (w : World) : (Builtin.max_ ts t #[.int .i64 a, .int .i64 b]).run Try.prog w = .ok (.int .i64 (if a < b then b else a)) w := by
  simp only [Builtin.max_, List.foldlM_cons, List.foldlM_nil, Builtin.max2]
  by_cases h : a < b
  · simp [go_sem, h]
  · simp [go_sem, h]
set_option maxHeartbeats 8000000 in
set_option maxRecDepth 100000 in
theorem put_any (k : LK) (w0 : World) (c n : Nat) (t bf : Nat → Nat) (K : Nat) (hT : FA w0 k.b k.o k.cp n (fun i => (t i : Int))) (hF : FA w0 k.b2 k.o2 k.cp2 n (fun i => (bf i : Int))) (hp : LineP n c t bf) (hO : k.ord) (hBB : k.B = w0.heap.size) (hK : K ≤ 12) (hKc : sumN t n ≤ K * c) :
    ∀ (m i : Nat), i + m = n → ∀ (A : Nat → Nat) (w : World) (o r : Nat → Int) (l : Int), Below k.B w0 w → LSt k w n K o r l → (∀ j, j < i → o j = (A j : Int)) → (∀ s, s < K → r s = rmF c t A i s) → l = (sumN t n : Int) - (sumN t i : Int) → PartL c t bf K A i →
    Calls Try.prog 23 #[.int .i64 (i : Int), .pointer (some ⟨k.xT, 0, none⟩), .pointer (some ⟨k.xB, 0, none⟩), .pointer (some ⟨k.xO, 0, none⟩), .pointer (some ⟨k.xC, 0, none⟩), .pointer (some ⟨k.xR, 0, none⟩), .pointer (some ⟨k.xL, 0, none⟩), .pointer (some ⟨k.xP, 0, none⟩)] w (PutOut k w0 c n t bf K A i w) := by
  intro m
  induction m with
  | zero =>
    intro i him A w o r l hb hS ho hr hl hpt
    obtain rfl : i = n := by omega
    have c1 := hS.fx.cT
    have HS := hd hS
    have HB := hd hb
    have HA := hd (And.intro (part_full hpt) ho)
    clear hb hS ho hr hl hpt hT hF hp hO hBB hKc
    go_enter Try.func23, Try.ntmps23
    go_wp2
    go_ret
    exact ⟨true, o, r, l, rfl, HS.out, HB.out, by rw [if_pos rfl]; exact ⟨A, HA.out⟩⟩
  | succ m ih =>
    intro i him A w o r l hb hS ho hr hl hpt
    have hi : i < n := by omega
    have n12 := hp.n12
    have HT := hd (fun (w' : World) (h : Below k.B w0 w') => (show FA w' k.b k.o k.cp n (fun i => (t i : Int)) from hT.below (by rw [← hBB]; exact h)))
    have HF := hd (fun (w' : World) (h : Below k.B w0 w') => (show FA w' k.b2 k.o2 k.cp2 n (fun i => (bf i : Int)) from hF.below (by rw [← hBB]; exact h)))
    have IH := hd (ih (i + 1) (by omega))
    have HP := hd hp
    have HST := hd hS
    have HB := hd hb
    have HOA := hd ho
    have HRR := hd hr
    have HLL := hd hl
    have HPT := hd hpt
    have HOR := hd hO
    have HKC := hd hKc
    have bfi := hp.bl i hi
    have hp12 : 2 ^ i ≤ 4096 := Nat.le_trans (Nat.pow_le_pow_right (by omega) (show i ≤ 12 by omega)) (by decide)
    have F0 := hd (show fstF A (bf i) 0 = 0 from rfl)
    have FS := hd (fun q => (show fstF A (bf i) (q + 1) = if (bf i).testBit q = true then max (fstF A (bf i) q) (A q) else fstF A (bf i) q from rfl))
    have FL := hd (fun s => fstF_le (A := A) (x := bf i) (s := s) (k := i))
    have c1 := hS.fx.cT
    have hii : (i : Int) < (n : Int) := Int.ofNat_lt.2 hi
    have hne : ¬ (i : Int) = (n : Int) := by omega
    obtain ⟨x, hx⟩ : ∃ x, x = bf i := ⟨_, rfl⟩
    rw [← hx] at F0 FS FL bfi
    have HX := hd hx
    clear hb hS ho hr hl hpt hT hF hp hO hBB hKc ih hx
    obtain ⟨f, hf⟩ : ∃ f, f = fstF A x := ⟨_, rfl⟩
    rw [← hf] at F0 FS FL
    clear hf
    go_enter Try.func23, Try.ntmps23
    go_wp2_with fail
    clear c1
    rw [show ((i : Int) == (n : Int)) = false by simpa using hne]
    clear hne
    go_loopw [10, 18] (fun fv iv wr => ∃ q : Nat, q ≤ i ∧ iv = .int .i64 q ∧ fv = .int .i64 (f q : Nat) ∧ wr = w) (fun _ iv _ => i - (intOf iv).toNat)
    case atStart => exact ⟨0, by omega, rfl, by rw [F0.out]; rfl, rfl⟩
    case round =>
      obtain ⟨q, hq, rfl, rfl, hw⟩ := hrel
      subst hw
      by_cases hlt : q < i
      · have k2 : (q : Int) < (i : Int) := Int.ofNat_lt.2 hlt
        have k3 : (q : Int) < (n : Int) := by omega
        have c2 := HST.out.fx.cB
        have c3 := (HF.out _ HB.out).cl i hi
        rw [← HX.out] at c3
        have c4 := HST.out.fx.cO
        have c5 := HST.out.rO.at (i := q) (by omega)
        rw [HOA.out q hlt] at c5
        have E := i64_bit' x q (by omega) (by omega)
        have t64 : min q 64 = q := by omega
        have ht64 : (q : Int) < 64 := by omega
        have fs := FS.out q
        generalize A q = aq at *
        cases hbit : x.testBit q with
        | true =>
          rw [hbit, if_pos rfl] at E fs
          have hmx := fun ts t w => run_max_l ts t ((f q : Nat) : Int) (aq : Int) w
          rw [show (if ((f q : Nat) : Int) < (aq : Int) then (aq : Int) else ((f q : Nat) : Int)) = ((f (q + 1) : Nat) : Int) by rw [fs]; split <;> omega] at hmx
          clear hbit fs
          obtain ⟨fq1, hfq⟩ : ∃ z, z = f (q + 1) := ⟨_, rfl⟩
          rw [← hfq] at hmx
          have HFQ := hd hfq
          clear hfq
          go_wp2
          go_roundw
          case rel => exact ⟨q + 1, by omega, by go_num, by rw [← HFQ.out], by first | rfl | trivial⟩
          case measure => simp [intOf]; omega
        | false =>
          rw [hbit, if_neg (by simp)] at E fs
          have FSq := hd fs
          clear hbit fs
          go_wp2
          go_roundw
          case rel => exact ⟨q + 1, by omega, by go_num, by rw [FSq.out], by first | rfl | trivial⟩
          case measure => simp [intOf]; omega
      · obtain rfl : i = q := by omega
        have FLi := hd FL.out
        have hfK : ∀ s, s < K → (∀ j, j < i → x.testBit j = true → A j ≤ s) → f i ≤ s := fun s _ h => (FL.out s).2 h
        obtain ⟨fi, hfi⟩ : ∃ fi, fi = f i := ⟨_, rfl⟩
        rw [← hfi] at FLi hfK ⊢
        clear FL FS F0 hfi hfK
        go_wp2
        obtain ⟨wT, hwT⟩ : ∃ wT, wT = wr := ⟨_, rfl⟩
        subst hwT
        go_loopw [12] (fun sv wr => ∃ (s : Nat) (o r : Nat → Int) (l : Int), fi ≤ s ∧ (s ≤ K ∨ s = fi) ∧ sv = .int .i64 s ∧ Hid (∀ j, j < i → o j = (A j : Int)) ∧ Hid (∀ s, s < K → r s = rmF c t A i s) ∧ Hid (l = (sumN t n : Int) - (sumN t i : Int)) ∧ Hid (LSt k wr n K o r l) ∧ Hid (Below k.B w0 wr) ∧ Hid (∀ s', fi ≤ s' → s' < s → ∀ A', FeasL c n t bf K A' → (∀ j, j < i → A' j = A j) → A' i ≠ s')) (fun sv _ => K - (intOf sv).toNat)
        case atStart => exact ⟨fi, o, r, l, Nat.le_refl _, .inr rfl, rfl, HOA, HRR, HLL, HST, HB, hd (fun s' h1 h2 => by omega)⟩
        case round =>
          clear HOA HRR HLL HST HB
          obtain ⟨s, o, r, l, hfs, hsK, rfl, HOA, HRR, HLL, HST, HB, HTR⟩ := hrel
          have c1 := HST.out.fx.cC
          by_cases hlt : s < K
          · have hsi : (s : Int) < (K : Int) := Int.ofNat_lt.2 hlt
            have HRs := hd (HRR.out s hlt)
            have htn := HP.out.tc i hi
            have htp := HP.out.t1 i hi
            have hcc := HP.out.c1
            have ldb := HPT.out.2.2 s
            have hrs : rmF c t A i s = (c : Int) - (ldN (fun j => A j == s) t i : Int) := rfl
            have c2 := HST.out.fx.cT
            have c3 := (HT.out wr HB.out).cl i hi
            have c4 := HST.out.fx.cR
            have c5 := HST.out.rR.at (i := s) hlt
            rw [HRs.out] at c5
            obtain ⟨rs, hrse⟩ : ∃ rs, rs = rmF c t A i s := ⟨_, rfl⟩
            rw [← hrse] at c5 hrs
            have HRS := hd hrse
            clear hrse
            obtain ⟨ti, hti⟩ : ∃ ti, ti = t i := ⟨_, rfl⟩
            rw [← hti] at c3 htn htp
            have HTI := hd hti
            clear hti
            have hwS : IntKind.i64.wrap ((s : Int) + 1) = (s : Int) + 1 := IntWalk.i64_in _ (by omega)
            have HWS := hd hwS
            by_cases hroom : (ti : Int) > rs
            · have HNR := hd (show ∀ s', fi ≤ s' → s' < s + 1 → ∀ A', FeasL c n t bf K A' → (∀ j, j < i → A' j = A j) → A' i ≠ s' from fun s' h1 h2 A' h3 h4 => by
                by_cases e : s' = s
                · subst e; exact no_room hi h3 h4 (by rw [← HTI.out]; omega)
                · exact HTR.out s' h1 (by omega) A' h3 h4)
              clear HTR ldb hrs htn htp hwS
              go_wp2_with fail
              go_quiet (fail)
              clear c1 c2 c3 c4 c5
              have hwS := HWS.out
              go_wp2_with fail
              go_roundw
              case rel => exact ⟨s + 1, o, r, l, by omega, .inl (by omega), by go_num, HOA, HRR, HLL, hd (HST.out.below (below_drewN (Below.refl _ _) nq) HOR.out), hd (below_drewN HB.out nq), HNR⟩
              case measure => simp [intOf]; omega
            · have hfit : ldN (fun j => A j == s) t i + ti ≤ c := by omega
              have HPN := hd (part_next (n := n) HP.out.bl hi HPT.out hlt (fun k' hk => by
                have := (FLi.out s).1 hfs k' (bit_lt (HP.out.bl i hi) hk) (by rw [HX.out]; exact hk)
                exact this) (by rw [← HTI.out]; exact hfit))
              have hroom2 : ¬ (ti : Int) > rs := hroom
              have HFIT := hd hfit
              clear ldb hrs hfit hwS
              go_wp2_with fail
              go_quiet (fail)
              clear c1 c2 c3 c4 c5 hroom
              have HS1 := hd (HST.out.below (below_drewN (Below.refl _ _) nq) HOR.out)
              have HB1 := hd (below_drewN HB.out nq)
              clear HST HB
              obtain ⟨W1, hW1⟩ : ∃ W1, W1 = wr.drewN nq := ⟨_, rfl⟩
              rw [← hW1] at HS1 HB1 ⊢
              clear hW1
              have c1 := HS1.out.fx.cO
              go_wp2_with ((with_reducible refine wpList_store_own _ k.B 2 1 n n k.gO _ HS1.out.rO size_int i (.int .i64 (s : Int)) ?_ ?_ ?_ ?_ ?_); exact rfl; exact rfl; exact rfl; omega; intro W2 ho2 hg2)
              have hor := HOR.out
              unfold LK.ord at hor
              have HS2 := hd (HS1.out.outW hg2 HOR.out (OwnL.set ho2 hi))
              have HB2 := hd (HB1.out.grown hg2 (by have := HS1.out.sz; omega) (fun q e => by cases e; omega))
              clear hor ho2 hg2 c1 HS1 HB1 hroom2
              have c1 := HS2.out.fx.cR
              have c2 := HS2.out.rR.at (i := s) hlt
              rw [HRs.out, ← HRS.out] at c2
              have c3 := HS2.out.fx.cT
              have c4 := (HT.out W2 HB2.out).cl i hi
              rw [← HTI.out] at c4
              have hw1 : IntKind.i64.wrap (rs - (ti : Int)) = rs - (ti : Int) := IntWalk.i64_in _ (by have := HFIT.out; have : rs = (c : Int) - (ldN (fun j => A j == s) t i : Int) := HRS.out; omega)
              go_still_tail 10, (by kernel_rfl)
              change wpList _ _ _ _ _ W2.drew
              have HS2d := hd (HS2.out.below (Below.refl _ W2).drew HOR.out)
              go_wp2_with ((with_reducible refine wpList_store_own _ k.B 2 1 K k.cR k.gR _ HS2d.out.rR size_int s (.int .i64 (rs - (ti : Int))) ?_ ?_ ?_ ?_ ?_); exact rfl; exact rfl; exact rfl; omega; intro W3 ho3 hg3)
              have hor := HOR.out
              unfold LK.ord at hor
              have HS3 := hd ((HS2d.out.roomW hg3 HOR.out (OwnL.set ho3 hlt)).same (o' := fun m => if m = i then (s : Int) else o m) (r' := fun m => rmF c t (upA A i s) (i + 1) m) (fun _ _ => rfl) (fun m hm => by
                show (if m = s then rs - (ti : Int) else r m) = rmF c t (upA A i s) (i + 1) m
                rw [rmF, upA_ld]
                by_cases e : m = s
                · subst e; rw [if_pos rfl, if_pos rfl, HRS.out, rmF, HTI.out]; push_cast; omega
                · rw [if_neg e, if_neg (fun h => e h.symm), HRR.out m hm, rmF]; rfl) rfl)
              have HB3 := hd (HB2.out.drew.grown hg3 (by have := HS2d.out.sz; omega) (fun q e => by cases e; omega))
              clear hor ho3 hg3 c1 c2 c3 c4 hw1 HS2 HS2d HB2
              have hL3 := HS3.out.hL
              have c1 := (cell_of_row W3 k.xL 0 _ _ _ hL3).trans rfl
              have c3 := HS3.out.fx.cT
              have c4 := (HT.out W3 HB3.out).cl i hi
              rw [← HTI.out] at c4
              have hlb : l = (sumN t n : Int) - (sumN t i : Int) := HLL.out
              have stb := hd (sumN_le (f := t) (c := 10000) (K := n))
              have hs1 : sumN t (i + 1) = sumN t i + t i := rfl
              rw [← HTI.out] at hs1
              have hsn : sumN t n ≤ 12 * 10000 := by
                have h1 := HKC.out
                have h2 : K * c ≤ 12 * 10000 := Nat.mul_le_mul hK hcc
                omega
              have hmono : sumN t (i + 1) ≤ sumN t n := by
                have key : ∀ m', sumN t (i + 1) ≤ sumN t (i + 1 + m') := fun m' => by
                  induction m' with
                  | zero => exact Nat.le_refl _
                  | succ m' ih =>
                    have e9 : sumN t (i + 1 + (m' + 1)) = sumN t (i + 1 + m') + t (i + 1 + m') := rfl
                    omega
                have := key (n - (i + 1))
                rw [show i + 1 + (n - (i + 1)) = n by omega] at this
                exact this
              have hw2 : IntKind.i64.wrap (l - (ti : Int)) = l - (ti : Int) := IntWalk.i64_in _ (by omega)
              have HL1 := hd (show l - (ti : Int) = (sumN t n : Int) - (sumN t (i + 1) : Int) by rw [hs1]; push_cast; omega)
              have HLB := hd (show (0 : Int) ≤ l - (ti : Int) ∧ l - (ti : Int) ≤ 120000 by omega)
              have HX3 := hd (show W3.drew.heap[k.xL]? = some (.cells #[.int .i64 l] 2 (0, 0)) from hL3)
              clear hlb stb hs1 hsn hmono hL3
              go_still_tail 6, (by kernel_rfl)
              change wpList _ _ _ _ _ W3.drew
              go_wp2_with ((with_reducible refine wpList_store_box _ k.xL _ _ HX3.out size_int 0 (.int .i64 (l - (ti : Int))) ?_ ?_ ?_ ?_ ?_); exact rfl; exact rfl; exact rfl; exact Nat.one_pos; intro W4 hx4 hg4)
              have hor := HOR.out
              unfold LK.ord at hor
              have HS4 := hd ((HS3.out.below (Below.refl _ W3).drew HOR.out).leftW hg4 HOR.out (show W4.heap[k.xL]? = some (.cells #[.int .i64 (l - (ti : Int))] 2 (0, 0)) from hx4))
              have HB4 := hd (HB3.out.drew.grown hg4 (by have := HS3.out.sz; have : W3.drew.heap.size = W3.heap.size := rfl; omega) (fun q e => by cases e; omega))
              clear hor hx4 hg4 c1 c3 c4 hw2 HS3 HB3 HX3
              have hL4 := HS4.out.hL
              have c1 := (cell_of_row W4 k.xL 0 _ _ _ hL4).trans rfl
              have c2 := HS4.out.fx.cR
              have c3 := HS4.out.fx.cP
              rw [LK.put] at c3
              have hsum := rm_sum (c := c) (t := t) (K := K) (A := upA A i s) (i := i + 1) HPN.out.1
              have SUM := hd (sumOf_any k.gR 0 k.cR K (rmF c t (upA A i s) (i + 1)) W4.drew ((HS4.out.below (Below.refl _ W4).drew HOR.out).rR.fa (by omega)) (by omega) (fun m hm => by
                have h1 := HPN.out.2.2 m
                have h2 : rmF c t (upA A i s) (i + 1) m = (c : Int) - (ldN (fun j => upA A i s j == m) t (i + 1) : Int) := rfl
                omega))
              rw [hsum] at SUM
              have hle : l - (ti : Int) ≤ (K : Int) * (c : Int) - (sumN t (i + 1) : Int) := by
                have h1 := HKC.out
                have h2 := HL1.out
                have h3 : ((K * c : Nat) : Int) = (K : Int) * (c : Int) := by push_cast; rfl
                omega
              generalize (K : Int) * (c : Int) - (sumN t (i + 1) : Int) = sm at *
              have hwi : IntKind.i64.wrap ((i : Int) + 1) = (i : Int) + 1 := IntWalk.i64_in _ (by omega)
              have IHs := hd (fun w' hb' hs' => IH.out (upA A i s) w' (fun m => if m = i then (s : Int) else o m) (rmF c t (upA A i s) (i + 1)) (l - (ti : Int)) hb' hs' (fun j hj => by
                unfold upA
                by_cases e : j = i
                · subst e; simp
                · rw [if_neg e, if_neg e]; exact HOA.out j (by omega)) (fun _ _ => rfl) HL1.out HPN.out)
              rw [show ((i + 1 : Nat) : Int) = (i : Int) + 1 by push_cast; rfl] at IHs
              clear hsum hL4
              go_wp2_with fail
              go_region_with (first
                | (go_at_call 22; refine SUM.out.mono ?_; rintro e w' ⟨rfl, hw⟩; replace hw := hw.symm; subst hw)
                | (go_at_call 23; refine (IHs.out _ HB4.out.drew (HS4.out.below (Below.refl _ W4).drew HOR.out)).mono ?_; rintro e W5 ⟨bb, o5, r5, l5, rfl, hs5, hb5, hif⟩; have HS5 := hd hs5; have HB5 := hd hb5; have HIF := hd hif; clear hs5 hb5 hif))
              all_goals
                clear c1 c2 c3 hle hwi SUM IHs HS4 HB4
                cases bb with
                | true =>
                  have hif := HIF.out
                  rw [if_pos rfl] at hif
                  have HIF2 := hd hif
                  clear hif HIF
                  go_wp2
                  go_ret
                  exact ⟨true, o5, r5, l5, rfl, HS5.out, HB5.out, by rw [if_pos rfl]; exact HIF2.out⟩
                | false =>
                  have hif := HIF.out
                  rw [if_neg (by simp)] at hif
                  obtain ⟨hne5, ho5, hr5, hl5⟩ := hif
                  have HNE5 := hd hne5
                  have HO5 := hd ho5
                  have HR5 := hd hr5
                  have HL5 := hd hl5
                  clear hne5 ho5 hr5 hl5 HIF
                  have HNR := hd (show ∀ s', fi ≤ s' → s' < s + 1 → ∀ A', FeasL c n t bf K A' → (∀ j, j < i → A' j = A j) → A' i ≠ s' from fun s' h1 h2 A' h3 h4 h5 => by
                    by_cases e : s' = s
                    · subst e
                      exact HNE5.out ⟨A', h3, fun j hj => by
                        unfold upA
                        by_cases e2 : j = i
                        · subst e2; rw [if_pos rfl]; exact h5
                        · rw [if_neg e2]; exact h4 j (by omega)⟩
                    · exact HTR.out s' h1 (by omega) A' h3 h4 h5)
                  have hL5 := HS5.out.hL
                  have c1 := (cell_of_row W5 k.xL 0 _ _ _ hL5).trans rfl
                  have c3 := HS5.out.fx.cT
                  have c4 := (HT.out W5 HB5.out).cl i hi
                  rw [← HTI.out] at c4
                  have hl5' : l5 = l - (ti : Int) := HL5.out.trans HL1.out.symm
                  have hlb := HLB.out
                  have hw3 : IntKind.i64.wrap (l5 + (ti : Int)) = l5 + (ti : Int) := IntWalk.i64_in _ (by omega)
                  have HLE5 := hd hl5'
                  have HX5 := hd (show W5.drew.heap[k.xL]? = some (.cells #[.int .i64 l5] 2 (0, 0)) from hL5)
                  clear hl5' hlb hL5
                  go_wp2_with fail
                  go_still_tail 6, (by kernel_rfl)
                  change wpList _ _ _ _ _ W5.drew
                  go_wp2_with ((with_reducible refine wpList_store_box _ k.xL _ _ HX5.out size_int 0 (.int .i64 (l5 + (ti : Int))) ?_ ?_ ?_ ?_ ?_); exact rfl; exact rfl; exact rfl; exact Nat.one_pos; intro W6 hx6 hg6)
                  have hor := HOR.out
                  unfold LK.ord at hor
                  have HS6 := hd ((HS5.out.below (Below.refl _ W5).drew HOR.out).leftW hg6 HOR.out (show W6.heap[k.xL]? = some (.cells #[.int .i64 (l5 + (ti : Int))] 2 (0, 0)) from hx6))
                  have HB6 := hd (HB5.out.drew.grown hg6 (by have := HS5.out.sz; have : W5.drew.heap.size = W5.heap.size := rfl; omega) (fun q e => by cases e; omega))
                  clear hor hx6 hg6 c1 c3 c4 hw3 HS5 HB5 HX5
                  have c1 := HS6.out.fx.cR
                  have c2 := HS6.out.rR.at (i := s) hlt
                  rw [HR5.out s hlt, rmF, upA_ld, if_pos rfl, ← HTI.out] at c2
                  rw [show (c : Int) - ((ldN (fun j => A j == s) t i + ti : Nat) : Int) = rs - (ti : Int) by rw [HRS.out, rmF]; push_cast; omega] at c2
                  have c3 := HS6.out.fx.cT
                  have c4 := (HT.out W6 HB6.out).cl i hi
                  rw [← HTI.out] at c4
                  have hw4 : IntKind.i64.wrap (rs - (ti : Int) + (ti : Int)) = rs := by rw [IntWalk.i64_in _ (by have : rs = (c : Int) - (ldN (fun j => A j == s) t i : Int) := HRS.out; have := HFIT.out; omega)]; omega
                  have hw5 : IntKind.i64.wrap rs = rs := IntWalk.i64_in _ (by have : rs = (c : Int) - (ldN (fun j => A j == s) t i : Int) := HRS.out; have := HFIT.out; omega)
                  have HS6d := hd (HS6.out.below (Below.refl _ W6).drew HOR.out)
                  go_still_tail 10, (by kernel_rfl)
                  change wpList _ _ _ _ _ W6.drew
                  go_wp2_with ((with_reducible refine wpList_store_own _ k.B 2 1 K k.cR k.gR _ HS6d.out.rR size_int s (.int .i64 rs) ?_ ?_ ?_ ?_ ?_); exact rfl; exact rfl; exact rfl; omega; intro W7 ho7 hg7)
                  have hor := HOR.out
                  unfold LK.ord at hor
                  have HS7 := hd (HS6d.out.roomW hg7 HOR.out (OwnL.set ho7 hlt))
                  have HB7 := hd (HB6.out.drew.grown hg7 (by have := HS6d.out.sz; omega) (fun q e => by cases e; omega))
                  clear hor ho7 hg7 c1 c2 c3 c4 hw4 hw5 HS6 HS6d HB6
                  have hwS := HWS.out
                  go_roundw
                  case rel => exact ⟨s + 1, _, _, _, by omega, .inl (by omega), by go_num, hd (fun j hj => by rw [HO5.out j (by omega), upA, if_neg (by omega)]), hd (fun m hm => by
                      show (if m = s then rs else r5 m) = rmF c t A i m
                      by_cases e : m = s
                      · subst e; rw [if_pos rfl]; exact HRS.out
                      · rw [if_neg e, HR5.out m hm, rmF, upA_ld, if_neg (fun h => e h.symm), rmF]; rfl), hd (show l5 + (ti : Int) = (sumN t n : Int) - (sumN t i : Int) by rw [HLE5.out]; have := HLL.out; omega), HS7, HB7, HNR⟩
                  case measure => simp [intOf]; omega
          · have hsi : ¬ (s : Int) < (K : Int) := by omega
            have HNO := hd (show ¬ ExtL c n t bf K A i from fun ⟨A', h1, h2⟩ => by
              have h3 := h1.1 i hi
              have h4 : fi ≤ A' i := (FLi.out (A' i)).2 fun j hj hb => by
                rw [← h2 j hj]
                exact h1.2.1 i hi j (by rw [← HX.out]; exact hb)
              exact HTR.out (A' i) h4 (by omega) A' h1 h2 rfl)
            go_wp2
            go_ret
            exact ⟨false, o, r, l, rfl, HST.out, HB.out, by rw [if_neg (by simp)]; exact ⟨HNO.out, HOA.out, HRR.out, HLL.out⟩⟩
end Go.Proofs.Ytgjjbnjahombdaa
