/- Whatever bytes choose trips and moves, the program's FewestVehicles, VehicleBound, IdleMoves and CanFollow are as the law says: it returns true. No condition. -/
import Derived.Test.YtjcmgjjnkbhamaaRows
import Derived.Test.YtjcmgjjnkbhamaaIdleI
import Derived.Test.YtjcmgjjnkbhamaaR8I
import Derived.Test.YtjcmgjjnkbhamaaFolI
import Derived.Test.YtjcmgjjnkbhamaaStepList
import Derived.Deep.CutRange
import Derived.Test.YtjcmgjjnkbhamaaOpen
import Derived.Test.YtjcmgjjnkbhamaaOpen2
namespace Go.Proofs.Ytjcmgjjnkbhamaa.lFnTrips
open Go.ChangeShapes Go.WideShapes Go.ChangeAt Go.RowKit Go.Proofs.Ytjcmgjjnkbhamaa Plain
set_option linter.unusedVariables false
set_option linter.unusedSimpArgs false
attribute [local go_sem ↓] Go.wp_at_zero Go.wp_at_succ

theorem drawn_trips {l : List Q4} {n : Nat} (hl : l.length = n) (n1 : 1 ≤ n) (n9 : n ≤ 9) (h : ∀ q ∈ l, tripOk q) : tripsB l = true ∧ ∀ q ∈ l, q.I64 := by
  constructor
  · rw [tripsB, Bool.and_eq_true, List.all_eq_true, decide_eq_true_eq]
    refine ⟨fun q hq => ?_, by omega, by omega⟩
    obtain ⟨⟨a0, a1⟩, ⟨b0, b1⟩, ⟨c0, c1⟩, d0, d1⟩ := h q hq
    exact tripB_iff.2 (by omega)
  · intro q hq
    obtain ⟨⟨a0, a1⟩, ⟨b0, b1⟩, ⟨c0, c1⟩, d0, d1⟩ := h q hq
    exact ⟨⟨by omega, by omega⟩, ⟨by omega, by omega⟩, ⟨by omega, by omega⟩, ⟨by omega, by omega⟩⟩
theorem round_facts {l : List Q4} {ms vs : List Int} {n ct : Nat} (ht : tripsB l = true) (h2 : movesB ms = true) (K : VehK l vs ct) (hl : l.length = n) {i k : Nat} {xa xb xc xd ya yb yc yd : Int} (hx : l[i]? = some ⟨xa, xb, xc, xd⟩) (hy : l[k]? = some ⟨ya, yb, yc, yd⟩) :
    ∃ nc nd : Nat, yc = nc ∧ xd = nd ∧ nc ≤ 7 ∧ nd ≤ 7 ∧ (partF l ms (n * n)).getD (i * n + k) false = decide (xb + ms.getD (nd * 8 + nc) 0 ≤ ya) ∧ (0 ≤ ms.getD (nd * 8 + nc) 0 ∧ ms.getD (nd * 8 + nc) 0 ≤ 1000) ∧ (0 ≤ xb ∧ xb ≤ 10000) ∧ (i ≠ k → vs.getD i 0 = vs.getD k 0 → xb ≤ ya ∨ yb ≤ xa) ∧ i * n + k < n * n := by
  have hi : i < l.length := (List.getElem?_eq_some_iff.1 hx).1
  have hk : k < l.length := (List.getElem?_eq_some_iff.1 hy).1
  obtain ⟨nc1, nd, rfl, rfl, g1, g2, g3, g4, g5, g6⟩ := trips_q ht hx
  obtain ⟨nc, nd2, rfl, rfl, g7, g8, g9, g10, g11, g12⟩ := trips_q ht hy
  have hin : i * n + k < n * n := by
    have : (i + 1) * n ≤ n * n := Nat.mul_le_mul_right _ (by omega)
    rw [Nat.succ_mul] at this
    omega
  obtain ⟨a, b, c, d, e1, e2, e3, _⟩ := trip_at ht hi
  obtain ⟨a', b', c', d', e4, e5, e6, _⟩ := trip_at ht hk
  rw [hx] at e1
  rw [hy] at e4
  cases e1
  cases e4
  refine ⟨nc, nd, rfl, rfl, g7, g2, ?_, moves_at h2 nd nc g2 g7, ⟨g5, g6⟩, fun hne hv => ?_, hin⟩
  · rw [List.getD_eq_getElem?_getD, partF, List.getElem?_map, List.getElem?_range hin]
    show cellF l ms (i * n + k) = _
    rw [← hl, cellF_at hx hy, folB_nat]
  · have := K.apart i k hi hk hne hv
    rw [e3, e5, e6, e2] at this
    exact this
theorem veh_bd {l : List Q4} {vs : List Int} {n ct : Nat} (K : VehK l vs ct) (hl : l.length = n) {i : Nat} (hi : i < n) : ¬ vs.getD i 0 < 0 ∧ ¬ vs.getD i 0 ≥ (ct : Int) ∧ ¬ (ct : Int) ≤ vs.getD i 0 := by
  have := K.bd i (by omega)
  omega
theorem zero_all {zs : List Int} (h : ∀ j, j < zs.length → zs.getD j 0 = 0) : (fun x => (zs.getD x 0).toNat) = fun _ => 0 := by
  funext x
  rcases Nat.lt_or_ge x zs.length with h1 | h1
  · rw [h x h1]; rfl
  · rw [List.getD_eq_getElem?_getD, List.getElem?_eq_none h1]; rfl
theorem own_part {w : World} {base E n : Nat} {v : Value} {xs : List Value} (h1 : 1 ≤ n) (h : w.ownsRow base E 1 v n xs) : ∃ g cap, v = .slice (some ⟨g, 0, none⟩) n cap := by
  rcases h.2 with ⟨rfl, e⟩ | ⟨g, cap, cur, rfl, _⟩
  · omega
  · exact ⟨g, cap, rfl⟩
set_option maxHeartbeats 8000000 in
set_option maxRecDepth 100000 in
theorem walk (w : World) (v0 : Value) (x0 : List Nat) (i0 : ∀ x ∈ x0, x < 256) (s0 : Sl w 1 v0 x0.length (bys x0)) (v1 : Value) (x1 : List Nat) (i1 : ∀ x ∈ x1, x < 256) (s1 : Sl w 1 v1 x1.length (bys x1)) :
    Calls Try.prog 3 #[v0, v1] w fun e w' => e = .returned (.bool true) ∧ Below w.heap.size w w' := by
  have L := hd (r8Long_any v0 v1 x0 x1 w s0 s1)
  have AM := hd (fun w' (h : Below w.heap.size w w') k n hn hn2 hk => r8At_any v1 x1 i1 k n hn hn2 hk w' (s1.below h))
  have RT := hd (fun w' (h : Below w.heap.size w w') N e2 => R8Trips_any v0 x0 i0 w' (s0.below h) N e2)
  have RM := hd (fun w' (h : Below w.heap.size w w') => R8Moves_any v1 x1 i1 w' (s1.below h))
  clear s0 s1 i0 i1
  go_enter Try.func3, Try.ntmps3
  go_wp2_with fail
  go_at_call 4
  refine L.out.mono ?_; rintro e w' ⟨rfl, hw⟩; replace hw := hw.symm; subst hw
  generalize (decide (48 < x0.length) || decide (48 < x1.length)) = b
  cases b with
  | true =>
    go_wp2
    go_ret
    exact ⟨rfl, Below.refl _ _⟩
  | false =>
  clear L
  go_wp2_with fail
  go_at_call 5
  refine (AM.out w (Below.refl _ _) 40 9 (by omega) (by omega) (by omega)).mono ?_; rintro e w' ⟨rfl, hw⟩; replace hw := hw.symm; subst hw
  have hq := r8F_lt x1 40 (n := 9) (by omega)
  generalize r8F x1 40 9 = q0 at *
  obtain ⟨n, hn⟩ : ∃ n : Nat, (n : Int) = 1 + (q0 : Int) := ⟨1 + q0, by push_cast; rfl⟩
  have n1 : 1 ≤ n := by omega
  have n9 : n ≤ 9 := by omega
  have hwn : IntKind.i64.wrap (1 + (q0 : Int)) = (n : Int) := by rw [IntWalk.i64_in _ (by omega), hn]
  clear hn hq
  go_wp2_with fail
  go_at_call 6
  refine (RT.out w (Below.refl _ _) n n9).mono ?_
  rintro e w1 ⟨l, u, rfl, hl, hlo, ho, hb1⟩
  clear hwn
  obtain ⟨ht, h64⟩ := drawn_trips hl n1 n9 hlo
  have HB1 := hd hb1
  have HU1 := hd (own_sl ho (size_le (show l.length ≤ 1048576 by omega)))
  clear ho hb1
  go_wp2_with fail
  go_at_call 7
  refine (RM.out w1 HB1.out).mono ?_
  rintro e w2 ⟨ms, mu, rfl, hmv, hmo, hb2⟩
  have HB2 := hd (below_tr hb2 HB1.out)
  have HU := hd (HU1.out.below hb2)
  have HM := hd (own_sl hmo (size_le (show 64 ≤ 1048576 by omega)))
  have h2 := mv_moves hmv
  clear hmo hb2 HB1 HU1 RT RM
  go_wp2_with fail
  go_at_call 8
  obtain ⟨vs, ct, eM, VK⟩ := veh_known ht h2
  have hml : ms.length = 64 := hmv.1
  have hmI : ∀ x ∈ ms, I64 x := fun x hx => by
    obtain ⟨k, hk, rfl⟩ := List.getElem_of_mem hx
    have := hmv.2.1 k (by omega)
    rw [List.getD_eq_getElem?_getD, List.getElem?_eq_getElem hk] at this
    simp only [Option.getD_some] at this
    exact ⟨by omega, by omega⟩
  have VI := hd (fun w' (hb : Below w2.heap.size w2 w') => VehI.impl_any w' u l h64 (by omega) (HU.out.below hb) mu ms hmI (by omega) (by rw [hml]; exact HM.out.below hb))
  rw [eM] at VI
  dsimp only at VI
  rw [VK.len] at VI
  have hz0 : ∀ j, (List.replicate 64 (0 : Int)).getD j 0 = 0 := fun j => by rw [List.getD_eq_getElem?_getD, List.getElem?_replicate]; split <;> rfl
  obtain ⟨vs0, ct0, eM0, hmost⟩ := veh_none ht (mv_moves mv_zero) hz0
  have BI := hd (fun w' (hb : Below w2.heap.size w2 w') => BndI.impl_any w' u l h64 (by omega) (HU.out.below hb))
  rw [show BndI.M l = ((ct0 : Int), true) by rw [BndI.M, ht, hmost]; rfl] at BI
  dsimp only at BI
  refine (VI.out w2 (Below.refl _ _)).mono ?_
  rintro e w3 ⟨vr, rfl, ho3, hb3⟩
  have B3 := hd hb3
  have HV3 := hd (own_sl ho3 (size_le (show l.length ≤ 1048576 by omega)))
  clear ho3 hb3 VI
  go_wp2_with fail
  go_at_call 9
  refine (BI.out w3 B3.out).mono ?_
  rintro e w4 ⟨rfl, hb4⟩
  have B4 := hd (below_tr hb4 B3.out)
  have HV4 := hd (HV3.out.below hb4)
  clear hb4 B3 HV3 BI
  go_wp2_with fail
  go_at_call 10
  have hl24 : l.length ≤ 24 := by omega
  obtain ⟨la, sm, hid, hs0⟩ := idle_veh ht h2 (mvV l ms) (fun x y hx hy => by
    obtain ⟨a, b, c, d, ea⟩ : ∃ a b c d, l[x]? = some ⟨a, b, c, d⟩ := ⟨l[x].a, l[x].b, l[x].c, l[x].d, List.getElem?_eq_getElem hx⟩
    obtain ⟨a', b', c', d', eb⟩ : ∃ a b c d, l[y]? = some ⟨a, b, c, d⟩ := ⟨l[y].a, l[y].b, l[y].c, l[y].d, List.getElem?_eq_getElem hy⟩
    obtain ⟨nc, nd, rfl, rfl, g1, g2, _⟩ := trips_q ht ea
    obtain ⟨nc', nd', rfl, rfl, g3, g4, _⟩ := trips_q ht eb
    rw [mvV, ea, eb]
    simp only
    rw [show ((nd : Int) * 8 + (nc' : Int)).toNat = nd * 8 + nc' by omega]
    exact (moves_at h2 nd nc' g2 g3).1) hl24
  rw [eM] at hid
  dsimp only at hid
  have II := hd (fun w' (hb : Below w2.heap.size w2 w') (vv : Value) (zs : List Int) (hzl : zs.length = n) (hz : ∀ x, x < n → 0 ≤ zs.getD x 0 ∧ zs.getD x 0 ≤ 23) (sz : Sl w' 1 vv n (zs.map vi)) => idle_any l ht ms h2 zs n hl hzl hz n1 (by omega) w' u mu vv (by rw [← hl]; exact HU.out.below hb) (HM.out.below hb) sz)
  refine (II.out w4 B4.out vr vs (by rw [VK.len, hl]) (fun x hx => by have h1 := VK.bd x (by omega); have h3 := VK.top; omega) (by rw [← hl]; exact HV4.out)).mono ?_
  rintro e w5 ⟨hb5, ⟨hno, _⟩ | ⟨la', sm', hyes, rfl⟩⟩
  · rw [← hl, hid] at hno; cases hno
  rw [← hl, hid] at hyes
  cases hyes
  have B5 := hd (below_tr hb5 B4.out)
  have HV5 := hd (HV4.out.below hb5)
  clear hb5 B4 HV4
  go_wp2_with fail
  go_at_call 11
  have FM : FolI.M l ms = (partF l ms (l.length * l.length), true) := by rw [FolI.M, ht, h2]; rfl
  have FI := hd (fun w' (hb : Below w2.heap.size w2 w') => FolI.impl_any w' u l h64 (by omega) (HU.out.below hb) mu ms hmI (by omega) (by rw [hml]; exact HM.out.below hb))
  rw [FM] at FI
  dsimp only at FI
  refine (FI.out w5 B5.out).mono ?_
  rintro e w6 ⟨fr, rfl, ho6, hb6⟩
  have B6 := hd (below_tr hb6 B5.out)
  have HV6 := hd (HV5.out.below hb6)
  have HFr := hd ho6
  obtain ⟨AM', cM, rfl, hcM, hrM⟩ := HM.out
  clear ho6 hb6 B5 HV5 FI hrM
  go_wp2_with (at_make; go_must (refine wpList_make_int _ rfl _ rfl _ _ 64 rfl rfl (by omega) ?_); intro w7 ho7 hb7)
  go_at_call 8
  have B7 := hd (below_tr hb7 B6.out)
  have HV7 := hd (HV6.out.below hb7)
  have HFr7 := hd (own_below HFr.out hb7)
  have HZ := own_sl ho7 (size_le (show 64 ≤ 1048576 by omega))
  have V0 := VehI.impl_any w7 u l h64 (by omega) (HU.out.below B7.out) (.slice (some ⟨w6.heap.size, 0, none⟩) 64 64) (List.replicate 64 0) (fun x hx => by rw [List.eq_of_mem_replicate hx]; exact ⟨by omega, by omega⟩) (by simp) (by rw [List.length_replicate, List.map_replicate]; exact HZ)
  rw [eM0] at V0
  dsimp only at V0
  refine V0.mono ?_
  rintro e w8 ⟨vr0, rfl, ho8, hb8⟩
  have B8 := hd (below_tr hb8 B7.out)
  have HV8 := HV7.out.below hb8
  have HFr8 := own_sl (own_below HFr7.out hb8) (show (partF l ms (l.length * l.length)).length ≤ maxLen by
    have : l.length * l.length ≤ 9 * 9 := Nat.mul_le_mul (by omega) (by omega)
    rw [partF_len]; unfold maxLen; omega)
  rw [partF_len] at HFr8
  have hct : ct0 ≤ ct := by have := VK.most; omega
  have htop := VK.top
  have TR := hd (fun w' (hb : Below w2.heap.size w2 w') => AreTrips_any u l w' (HU.out.below hb))
  have MV := hd (fun w' (hb : Below w2.heap.size w2 w') => AreMoves_any (.slice AM' 64 cM) ms w' (by rw [hml]; exact HM.out.below hb))
  rw [ht] at TR
  rw [h2] at MV
  obtain ⟨N2, hN2⟩ : ∃ N2, N2 = n * n := ⟨_, rfl⟩
  have hNw : IntKind.i64.wrap ((n : Int) * (n : Int)) = (N2 : Int) := by
    have : n * n ≤ 9 * 9 := Nat.mul_le_mul (by omega) (by omega)
    rw [IntWalk.i64_in _ (by constructor <;> push_cast [hN2] <;> omega), hN2]; push_cast; rfl
  rw [hl] at HV8 HFr8 htop
  rw [← hN2] at HFr8
  obtain ⟨AV, cV, rfl, hcV, hrV⟩ := HV8
  obtain ⟨AF, cF, rfl, hcF, hrF⟩ := HFr8
  have HRV := hd hrV
  have HRF := hd hrF
  have HN2 := hd hN2
  have HMO := hd hmost
  have HL := hd hl
  have HVK := hd VK
  have HT := hd ht
  have H2 := hd h2
  have HMV := hd hmv
  have HHL := hd hlo
  have g1 : ¬ n < ct := by omega
  have g2 : ¬ ct < ct0 := by omega
  obtain ⟨sN, rfl⟩ : ∃ sN : Nat, sm = (sN : Int) := ⟨sm.toNat, by omega⟩
  clear VK ht h2 hmv hl hml hlo h64 hl24 hmost FM hcM hcV hcF hct htop hs0
  clear ho7 hb7 ho8 hb8 B6 B7 HV6 HV7 HFr HFr7 HZ V0 hrV hrF hN2 eM0 eM hid hz0 hmI
  go_wp2_with fail
  go_at_call 12
  refine (TR.out w8 B8.out).mono ?_; rintro e w9 ⟨rfl, hb9⟩
  have B9 := hd (below_tr hb9 B8.out)
  have HRV9 := hd (HRV.out.below hb9)
  have HRF9 := hd (HRF.out.below hb9)
  clear HRV HRF hb9 B8 TR
  go_wp2_with fail
  go_at_call 13
  refine (MV.out w9 B9.out).mono ?_; rintro e w' ⟨rfl, rfl⟩
  clear MV
  rw [HL.out] at HU
  obtain ⟨AU, cU, rfl, _, hrU⟩ := HU.out
  obtain ⟨_, _, eqM, _, hrM⟩ := HM.out
  cases eqM
  have HRU := hd (show Rd w9 4 AU n (q4s l) from hrU.below B9.out)
  have HRM := hd (show Rd w9 1 AM' 64 (ms.map vi) from hrM.below B9.out)
  clear hrU hrM ‹64 ≤ cM› ‹n ≤ cU›
  go_upto_region 14 with fail
  clear g1 g2 hNw
  go_wp2
  go_loopw [21] (fun iv wr => ∃ i : Nat, i ≤ n ∧ iv = .int .i64 i ∧ Hid (Below w9.heap.size w9 wr)) (fun iv _ => n - (intOf iv).toNat)
  case atStart => exact ⟨0, by omega, rfl, hd (Below.refl _ _)⟩
  case round =>
    obtain ⟨i, hi, rfl, HB⟩ := hrel
    by_cases hlt : i < n
    · have i2 : (i : Int) < (n : Int) := Int.ofNat_lt.2 hlt
      obtain ⟨bv, ov, rfl, c0⟩ := (HRV9.out.below HB.out).int hlt
      obtain ⟨v1', v2', v3'⟩ := veh_bd HVK.out HL.out hlt
      obtain ⟨vx, hvx⟩ : ∃ vx, vx = vs.getD i 0 := ⟨_, rfl⟩
      rw [← hvx] at c0 v1' v2' v3'
      have HVX := hd hvx
      clear hvx
      go_upto_region 20 with fail
      clear c0 v1' v2' v3'
      go_wp2
      go_loopw [22] (fun kv wr2 => ∃ k : Nat, k ≤ n ∧ kv = .int .i64 k ∧ Hid (Below w9.heap.size w9 wr2)) (fun kv _ => n - (intOf kv).toNat)
      case atStart => exact ⟨0, by omega, rfl, HB⟩
      case round =>
        obtain ⟨k, hk, rfl, HK⟩ := hrel
        by_cases hlk : k < n
        ·
          as_aux_lemma =>
          have k2 : (k : Int) < (n : Int) := Int.ofNat_lt.2 hlk
          obtain ⟨bu, ou, xa, xb, xc, xd, rfl, hxa, s0, s1, s2, s3⟩ := (HRU.out.below HK.out).q4 hlt
          obtain ⟨_, _, ya, yb, yc, yd, e2, hya, t0, t1, t2, t3⟩ := (HRU.out.below HK.out).q4 hlk
          cases e2
          obtain ⟨nc, nd, rfl, rfl, g1, g2, hcell, ⟨m0, m1⟩, ⟨x0, x1⟩, hap, hin⟩ := round_facts HT.out H2.out HVK.out HL.out hxa.out hya.out
          obtain ⟨bm, om, rfl, cm⟩ := (HRM.out.below HK.out).int (show nd * 8 + nc < 64 by omega)
          obtain ⟨bf, of, rfl, cf⟩ := (HRF9.out.below HK.out).bool (show i * n + k < N2 by rw [HN2.out]; exact hin)
          obtain ⟨_, _, e3, c0⟩ := (HRV9.out.below HK.out).int hlt
          cases e3
          obtain ⟨_, _, e3, c1⟩ := (HRV9.out.below HK.out).int hlk
          cases e3
          rw [← HVX.out] at c0 hap
          generalize vs.getD k 0 = vy at *
          rw [HN2.out, hcell] at cf
          generalize ms.getD (nd * 8 + nc) 0 = mv at *
          obtain ⟨mi, hmi⟩ : ∃ mi, mi = nd * 8 + nc := ⟨_, rfl⟩
          obtain ⟨inn, hinn⟩ : ∃ inn, inn = i * n := ⟨_, rfl⟩
          obtain ⟨n8, hn8⟩ : ∃ n8, n8 = nd * 8 := ⟨_, rfl⟩
          have w1' : IntKind.i64.wrap ((nd : Int) * 8) = (n8 : Int) := by rw [IntWalk.i64_in _ (by omega), hn8]; push_cast; rfl
          have w2' : IntKind.i64.wrap ((n8 : Int) + (nc : Int)) = (mi : Int) := by rw [IntWalk.i64_in _ (by omega), hmi, hn8]; push_cast; rfl
          have hmi64 : (mi : Int) < 64 := by omega
          have hmi64' : mi < 64 := by omega
          have hinb : inn + k < N2 := by rw [HN2.out, hinn]; exact hin
          have hn2 : N2 ≤ 81 := by rw [HN2.out]; exact Nat.mul_le_mul n9 n9
          have w3' : IntKind.i64.wrap ((i : Int) * (n : Int)) = (inn : Int) := by
            have e : (i : Int) * (n : Int) = (inn : Int) := by rw [hinn]; push_cast; rfl
            rw [e]
            exact IntWalk.i64_in _ (by omega)
          have w4' : IntKind.i64.wrap ((inn : Int) + (k : Int)) = ((inn + k : Nat) : Int) := by rw [IntWalk.i64_in _ (by omega)]; push_cast; rfl
          obtain ⟨ik, hik⟩ : ∃ ik, ik = inn + k := ⟨_, rfl⟩
          have w5' : IntKind.i64.wrap (xb + mv) = xb + mv := IntWalk.i64_in _ (by omega)
          rw [← hinn] at cf
          rw [← hik] at cf w4' hinb
          rw [← hmi] at cm
          have hik2 : (ik : Int) < (N2 : Int) := Int.ofNat_lt.2 hinb
          clear hik hinn hn8 hmi hin hcell hxa hya m0 m1 x0 x1 g1 g2 hn2
          go_wp2
          go_quiet (fail)
          clear w1' w2' cm hmi64 hmi64' s3 t2
          go_wp2
          obtain ⟨bb, hb⟩ : ∃ bb, decide (xb + mv ≤ ya) = bb := ⟨_, rfl⟩
          rw [hb] at cf
          have hbb : (bb != bb) = false := by cases bb <;> rfl
          go_quiet (fail)
          clear hb hbb cf w3' w4' w5' hik2 hinb
          go_wp2
          by_cases hik : i = k
          · subst hik
            clear hap t1 s0 s1 t0
            go_quiet (fail)
            clear c0 c1
            go_wp2
            go_roundw
            case rel => exact ⟨i + 1, by omega, by go_num, hd (below_drewN HK.out _)⟩
            case measure => simp [intOf]; omega
          · have hik2 : ¬ (i : Int) = (k : Int) := by omega
            have hik3 : ((i : Int) == (k : Int)) = false := by simpa using hik2
            have hik4 : ((i : Int) != (k : Int)) = true := by simpa using hik2
            by_cases hvv : vx = vy
            · subst hvv
              have hap' := hap hik rfl
              clear hap
              by_cases hle : xb ≤ ya
              · clear hap'
                have hle2 : decide (xb ≤ ya) = true := by simpa using hle
                clear hle s0 t1 hik
                go_quiet (fail)
                clear c0 c1 s1 t0 hle2
                go_wp2
                go_roundw
                case rel => exact ⟨k + 1, by omega, by go_num, hd (below_drewN HK.out _)⟩
                case measure => simp [intOf]; omega
              · have hle2 : decide (xb ≤ ya) = false := by simpa using hle
                have hle3 : decide (yb ≤ xa) = true := decide_eq_true (by omega)
                clear hap' hle hik
                go_quiet (fail)
                clear c0 c1 s0 s1 t0 t1 hle2 hle3
                go_wp2
                go_roundw
                case rel => exact ⟨k + 1, by omega, by go_num, hd (below_drewN HK.out _)⟩
                case measure => simp [intOf]; omega
            · have hv2 : (vx == vy) = false := by simpa using hvv
              clear hap hvv hik
              go_quiet (fail)
              clear c0 c1 s0 s1 t0 t1 hv2
              go_wp2
              go_roundw
              case rel => exact ⟨k + 1, by omega, by go_num, hd (below_drewN HK.out _)⟩
              case measure => simp [intOf]; omega
        · obtain rfl : k = n := by omega
          clear i2
          go_wp2
          go_roundw
          case rel =>
            exact ⟨i + 1, by omega, by go_num, HK⟩
          case measure => simp [intOf]; omega
    · obtain rfl : i = n := by omega
      obtain ⟨bv, ov, rfl, _⟩ := (HRV9.out).int n1
      clear hlt
      have BX := hd (below_tr HB.out B9.out)
      have HRVx := hd (show Rd wr 1 (some ⟨bv, ov, none⟩) i (vs.map vi) from HRV9.out.below HB.out)
      clear HB HRM HRU HRF9 HRV9 HU HM
      go_wp2_with (first | (refine wpList_app_list _ rfl _ _ rfl _ rfl bv ov i _ vs rfl (HRVx.out.below (by go_grown)) n1 (by omega) ?_; intro v6 w6 ho6 hb6))
      go_wp2
      obtain ⟨g6, c6, rfl⟩ := own_part n1 ho6
      have HO6 := hd ho6
      have B6 := hd (below_tr hb6 (show Below w2.heap.size w2 (wr.alloc (.cells #[] 2)) from BX.out.alloc BX.out.size _))
      have HW6 := hd (show w2.heap.size ≤ (wr.alloc (.cells #[] 2)).heap.size from (show Below w2.heap.size w2 (wr.alloc (.cells #[] 2)) from BX.out.alloc BX.out.size _).size)
      have HVL := hd (show vs.length = i from HVK.out.len.trans HL.out)
      clear ho6 hb6 HRVx BX
      go_loopw [25] (fun jv w3 => ∃ (j : Nat) (zs : List Int), j ≤ i ∧ jv = .int .i64 j ∧ zs.length = i ∧ (∀ x, x < j → zs.getD x 0 = 0) ∧ Hid (w3.ownsRow w2.heap.size 2 1 (.slice (some ⟨g6, 0, none⟩) i c6) i (zs.map vi)) ∧ Hid (Below w2.heap.size w2 w3)) (fun jv _ => i - (intOf jv).toNat)
      case atStart => exact ⟨0, vs, by omega, rfl, HVL.out, fun x hx => by omega, hd (own_mono HO6.out HW6.out), B6⟩
      case round =>
        obtain ⟨j, zs, hj, rfl, hzl, hz, HO, HB⟩ := hrel
        by_cases hlj : j < i
        · have j2 : (j : Int) < (i : Int) := Int.ofNat_lt.2 hlj
          have HZ := hd hz
          have HZL := hd hzl
          have ho := HO.out
          clear hz hzl HO6 B6 HW6 HVL
          go_wp2_with ((with_reducible refine wpList_store_own _ w2.heap.size 2 1 i c6 g6 _ ho size_int ?_ ?_ ?_ ?_ ?_ ?_ ?_); rotate_left 2; exact rfl; exact rfl; exact rfl; omega; intro w7 ho7 hg7)
          have e7 : w7.ownsRow w2.heap.size 2 1 (.slice (some ⟨g6, 0, none⟩) i c6) i ((zs.set j 0).map vi) := by rw [List.map_set]; exact ho7
          have HE7 := hd e7
          have HB7 := hd (below_row hg7 HB.out (fun k hk => (own_row ho (Nat.le_refl _) k hk)))
          clear ho7 hg7 ho e7
          go_roundw
          case rel => exact ⟨j + 1, zs.set j 0, by omega, by go_num, by rw [List.length_set]; exact HZL.out, fun x hx => by
            rw [List.getD_eq_getElem?_getD, List.getElem?_set]
            by_cases hxj : j = x
            · rw [if_pos hxj]; split <;> rfl
            · rw [if_neg hxj, ← List.getD_eq_getElem?_getD]; exact HZ.out x (by omega), HE7, HB7⟩
          case measure => simp [intOf]; omega
        · obtain rfl : j = i := by omega
          have hz0 := zero_all (zs := zs) (fun x hx => hz x (by omega))
          have hz23 : ∀ x, x < j → 0 ≤ zs.getD x 0 ∧ zs.getD x 0 ≤ 23 := fun x hx => by rw [hz x hx]; omega
          have I2 := hd (II.out wr HB.out _ zs hzl hz23 (own_sl HO.out (size_le (by omega))))
          rw [hz0] at I2
          clear hz0 hz23 hz hzl HO6 HVL II hlj HW6 B6
          go_wp2_with fail
          go_at_call 10
          refine I2.out.mono ?_
          rintro e w7 ⟨hb7, ⟨hno, rfl⟩ | ⟨la', sm', hyes, rfl⟩⟩
          · have HB7 := hd (below_tr (below_tr hb7 HB.out) HB2.out)
            clear hb7 hno
            go_wp2
            go_ret
            exact ⟨rfl, HB7.out⟩
          · have HB7 := hd (below_tr (below_tr hb7 HB.out) HB2.out)
            have h1 := idle_all HT.out H2.out (by rw [HL.out]; exact n1) (mvV l ms) (by rw [HL.out]; exact hyes)
            rw [HMO.out] at h1
            obtain rfl : ct0 = 1 := by omega
            clear hb7 hyes h1
            go_wp2
            go_ret
            exact ⟨rfl, HB7.out⟩

theorem own : ownKnob Try.prog.godebug = none := by kernel_rfl
theorem laidOut : laidOutB Try.prog = true := by kernel_rfl

set_option maxRecDepth 100000 in
theorem lifted (os : Os) (started : os.Started) (H : Type) (enc : TypeId × Value → H) :
    ReturnsInHanded {} Try.checked os 3 .any (Rows.fnTripsSpec.pre6 enc Try.prog Try.f3 Rows.fnTripsRow.domain false) (Rows.fnTripsSpec.post enc Try.prog Try.f3 false true false false) := by
  refine returnsInHanded_of_change (C := Try.checked) own started (by as_aux_lemma => kernel_rfl) Try.func3
    (ChangeSpec.witness6 (enc := enc) (C := Try.checked) false ⟨#[], #[.slice none 0 0, .slice none 0 0], []⟩ 8 (by as_aux_lemma => kernel_rfl) (by as_aux_lemma => kernel_rfl) (by as_aux_lemma => kernel_rfl) (by as_aux_lemma => kernel_rfl)) ?_
  intro W base args ds gs before hval0 hW hcnd _
  have hval : ∀ (j : Nat) t v, Try.f3.params[j]? = some t → args[j]? = some v → Value.okWide Try.prog W .any base t v := hval0
  have hW' := hW
  obtain ⟨p, q, hA0, hV, rfl, hfz, hnd⟩ := hW
  have hA : DataW.TrodAll enc Try.prog W 0 (fun _ => true) true Try.f3.params.toList args.toList ds p := hA0
  rw [Try.params3] at hA hval
  obtain ⟨v0, vs0, d0, ds0, p0, q0, hargs, rfl, rfl, h0, r0⟩ := trodAll_cons hA
  obtain ⟨v1, vs1, d1, ds1, p1, q1, rfl, rfl, rfl, h1, r1⟩ := trodAll_cons r0
  obtain ⟨rfl, rfl, rfl⟩ := trodAll_nil r1
  obtain rfl : args = #[v0, v1] := by cases args; simp_all
  obtain ⟨rfl, rfl⟩ := trodVars_none hV
  have k0 := h0
  have lt0 : ∀ x ∈ p0, x.block < W.heap.size := by obtain ⟨m, hm⟩ := k0; exact DataW.trod_lt m _ _ _ hm
  obtain ⟨s0, len0, cap0, rfl⟩ := okWide_slice Try.underlying22 (hval 0 22 v0 rfl rfl)
  obtain ⟨x0, _, i0, w0⟩ := arg_bytes Try.underlying22 Try.underlying5 (by as_aux_lemma => kernel_rfl) h0
  have k1 := h1
  have lt1 : ∀ x ∈ p1, x.block < W.heap.size := by obtain ⟨m, hm⟩ := k1; exact DataW.trod_lt m _ _ _ hm
  obtain ⟨s1, len1, cap1, rfl⟩ := okWide_slice Try.underlying22 (hval 1 22 v1 rfl rfl)
  obtain ⟨x1, _, i1, w1⟩ := arg_bytes Try.underlying22 Try.underlying5 (by as_aux_lemma => kernel_rfl) h1
  clear hA0 hval0
  refine (walk W _ x0 i0 w0 _ x1 i1 w1).mono fun e W' ⟨he, bel⟩ => ?_
  subst he
  exact ⟨_, rfl, _, _, _, [], _, [], hW', trodAll_mk1 (shut_bool Try.underlying4 _), (trodAll_cons_mk (Below.trod laidOut (by as_aux_lemma => kernel_rfl) (of_decide_eq_true (by as_aux_lemma => kernel_rfl)) k0 bel lt0) (trodAll_cons_mk (Below.trod laidOut (by as_aux_lemma => kernel_rfl) (of_decide_eq_true (by as_aux_lemma => kernel_rfl)) k1 bel lt1) (trodAll_mk0))), rfl, bel.frame _, fun h => by cases h⟩

/-- The given statement. -/
theorem proved : Rows.FnTripsSaid :=
  OpenClaim.holds_of_wide 3 Try.f3 rfl rfl rfl rfl rfl rfl rfl ⟨rfl, rfl, rfl, rfl, rfl⟩ rfl rfl rfl rfl rfl (by kernel_rfl) Try.func3 (by kernel_rfl)
    (of_decide_eq_true (by kernel_rfl)) (by unfold Func.isWrapper; first | (rw [if_pos (by decide +kernel)]; kernel_rfl) | (rw [if_neg (by decide +kernel)]; exact ⟨rfl, rfl⟩))
    (fun os started H enc _ => lifted os started H enc)
#print axioms proved

end Go.Proofs.Ytjcmgjjnkbhamaa.lFnTrips
