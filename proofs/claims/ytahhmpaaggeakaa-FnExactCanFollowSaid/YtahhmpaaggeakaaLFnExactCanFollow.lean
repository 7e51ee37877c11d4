/- Whatever trips and moves are given, the program's CanFollow and the reference's return the same list and bool, leave the arguments alone and share no memory: the law returns true. No condition. -/
import Derived.Test.YtahhmpaaggeakaaRows
import Derived.Test.YtahhmpaaggeakaaTable
import Derived.Test.YtahhmpaaggeakaaOpen
namespace Go.Proofs.Ytahhmpaaggeakaa.lFnExactCanFollow
open Go.ChangeShapes Go.WideShapes Go.ChangeAt Go.RowKit Go.Proofs.Ytahhmpaaggeakaa Plain
set_option linter.unusedVariables false
set_option linter.unusedSimpArgs false
attribute [local go_sem ↓] Go.wp_at_zero Go.wp_at_succ

def M (l : List Q4) (ms : List Int) : List Bool × Bool := if tripsB l && movesB ms then (partF l ms (l.length * l.length), true) else ([], false)
theorem len_ok (l : List Q4) (_ : ∀ q ∈ l, q.I64) (_ : l.length ≤ 1048576) (ms : List Int) (_ : ∀ x ∈ ms, I64 x) (_ : ms.length ≤ 1048576) : (M l ms).1.length ≤ 1048576 := by
  unfold M
  split
  · rename_i h
    rw [Bool.and_eq_true] at h
    have := trips_len h.1
    have : l.length * l.length ≤ 24 * 24 := Nat.mul_le_mul (by omega) (by omega)
    rw [partF_len]
    omega
  · simp

set_option maxHeartbeats 2000000 in
theorem spec_any (w : World) (v : Value) (l : List Q4) (_i : ∀ q ∈ l, q.I64) (_b : l.length ≤ 1048576) (s : Sl w 4 v l.length (q4s l)) (u : Value) (ms : List Int) (_j : ∀ x ∈ ms, I64 x) (_c : ms.length ≤ 1048576) (t : Sl w 1 u ms.length (ms.map vi)) :
    Calls Try.prog 37 #[v, u] w (OutL 4 1 (M l ms).1.length ((M l ms).1.map vb) (fun z => .tuple #[z, .bool (M l ms).2]) w) := by
  have A1 := hd (l06Trips_any v l w s)
  have A2 := hd (fun w' h => l06Moves_any u ms w' (t.below h))
  have s0 := hd s
  have t0 := hd t
  clear s t _i _j _b _c
  cases h1 : tripsB l with
  | false =>
    have H := hd (show M l ms = ([], false) by rw [M, h1]; rfl)
    rw [h1] at A1
    clear h1
    go_enter Try.func37, Try.ntmps37
    go_wp2_with (first | (go_at_call 86; refine A1.out.mono ?_; rintro e w' ⟨rfl, hb⟩) | (go_at_call 87; refine (A2.out _ hb).mono ?_; rintro e w' ⟨rfl, rfl⟩))
    go_ret2
    rw [H.out]
    exact ⟨_, rfl, World.ownsRow_nil _ _ _ _, hb⟩
  | true =>
    cases h2 : movesB ms with
    | false =>
      have H := hd (show M l ms = ([], false) by rw [M, h1, h2]; rfl)
      rw [h1] at A1
      rw [h2] at A2
      clear h1 h2
      go_enter Try.func37, Try.ntmps37
      go_wp2_with (first | (go_at_call 86; refine A1.out.mono ?_; rintro e w' ⟨rfl, hb⟩) | (go_at_call 87; refine (A2.out _ hb).mono ?_; rintro e w' ⟨rfl, rfl⟩))
      go_ret2
      rw [H.out]
      exact ⟨_, rfl, World.ownsRow_nil _ _ _ _, hb⟩
    | true =>
      have H := hd (show M l ms = (partF l ms (l.length * l.length), true) by rw [M, h1, h2]; rfl)
      have T := hd (fun w' h => l06Table_any v u l ms w' (s0.out.below h) (t0.out.below h) h1 h2)
      rw [h1] at A1
      rw [h2] at A2
      have PL := hd (partF_len l ms (l.length * l.length))
      clear h1 h2
      go_enter Try.func37, Try.ntmps37
      go_wp2_with (first | (go_at_call 86; refine A1.out.mono ?_; rintro e w' ⟨rfl, hb⟩) | (go_at_call 87; refine (A2.out _ hb).mono ?_; rintro e w2 ⟨rfl, rfl⟩) | (go_at_call 88; refine (T.out _ hb).mono ?_; rintro e w3 ⟨z, rfl, ho, hb3⟩))
      go_ret2
      rw [H.out]
      refine ⟨_, rfl, ?_, below_tr hb3 hb⟩
      simp only [PL.out]
      exact own_mono ho hb.size

set_option maxHeartbeats 4000000 in
theorem impl_any (w : World) (v : Value) (l : List Q4) (_i : ∀ q ∈ l, q.I64) (_b : l.length ≤ 1048576) (s : Sl w 4 v l.length (q4s l)) (u : Value) (ms : List Int) (_j : ∀ x ∈ ms, I64 x) (_c : ms.length ≤ 1048576) (t : Sl w 1 u ms.length (ms.map vi)) :
    Calls Try.prog 39 #[v, u] w (OutL 4 1 (M l ms).1.length ((M l ms).1.map vb) (fun z => .tuple #[z, .bool (M l ms).2]) w) := by
  have A1 := hd (AreTrips_any v l w s)
  have A2 := hd (fun w' h => AreMoves_any u ms w' (t.below h))
  have t0 := hd t
  clear t _i _j _b _c
  obtain ⟨A, cap, rfl, hcap, hr⟩ := s
  cases h1 : tripsB l with
  | false =>
    have H := hd (show M l ms = ([], false) by rw [M, h1]; rfl)
    rw [h1] at A1
    clear h1
    go_enter Try.func39, Try.ntmps39
    go_wp2_with (first | (go_at_call 90; refine A1.out.mono ?_; rintro e w' ⟨rfl, hb⟩) | (go_at_call 91; refine (A2.out _ hb).mono ?_; rintro e w' ⟨rfl, rfl⟩))
    go_ret2
    rw [H.out]
    exact ⟨_, rfl, World.ownsRow_nil _ _ _ _, hb⟩
  | true =>
    cases h2 : movesB ms with
    | false =>
      have H := hd (show M l ms = ([], false) by rw [M, h1, h2]; rfl)
      rw [h1] at A1
      rw [h2] at A2
      clear h1 h2
      go_enter Try.func39, Try.ntmps39
      go_wp2_with (first | (go_at_call 90; refine A1.out.mono ?_; rintro e w' ⟨rfl, hb⟩) | (go_at_call 91; refine (A2.out _ hb).mono ?_; rintro e w' ⟨rfl, rfl⟩))
      go_ret2
      rw [H.out]
      exact ⟨_, rfl, World.ownsRow_nil _ _ _ _, hb⟩
    | true =>
      have H := hd (show M l ms = (partF l ms (l.length * l.length), true) by rw [M, h1, h2]; rfl)
      have FO := hd (fun w' (a b c a' b' d' : Int) (nd nc : Nat) h e1 e2 e3 e4 e5 e6 => follows_any a b c a' b' d' nd nc u ms w' (t0.out.below h) (movesB_iff.1 h2).1 e1 e2 e3 e4 e5 e6)
      have TQ := hd (fun k a b c d hq => trips_q h1 (k := k) (a := a) (b := b) (c := c) (d := d) hq)
      have MA := hd (moves_at h2)
      have CA := hd (fun i k a b ha hb => cellF_at (l := l) (m := ms) (i := i) (k := k) (a := a) (b := b) ha hb)
      obtain ⟨n1, n2⟩ := trips_len h1
      rw [h1] at A1
      rw [h2] at A2
      clear h1 h2 t0
      have PL := hd (partF_len l ms (l.length * l.length))
      generalize hn : l.length = n at *
      have Hn := hd hn
      clear hn
      go_enter Try.func39, Try.ntmps39
      go_wp2_with (first | (go_at_call 90; refine A1.out.mono ?_; rintro e w0 ⟨rfl, hb00⟩) | (go_at_call 91; refine (A2.out _ hb00).mono ?_; rintro e w2 ⟨rfl, rfl⟩))
      clear A1 A2
      have hstart := own_mono (World.ownsRow_made (size := 1) w0 #[] 0 (Nat.le_refl _) (by unfold maxLen; omega) rfl (e := 4)) hb00.size
      have hbs := below_tr ((Below.refl _ w0).alloc (Nat.le_refl _) (.cells #[] 4)) hb00
      go_loopw [6, 22] (fun out ix wr => ∃ i : Nat, i ≤ n ∧ ix = .int .i64 i ∧ wr.ownsRow w.heap.size 4 1 out (i * n) ((partF l ms (i * n)).map vb) ∧ Below w.heap.size w wr) (fun _ i _ => n - (intOf i).toNat)
      case atStart => exact ⟨0, by omega, rfl, by simpa [partF] using hstart, hbs⟩
      case round =>
        obtain ⟨i, hi, rfl, ho, hb⟩ := hrel
        clear hstart hbs hb00
        by_cases hlt : i < n
        · obtain ⟨b, off, qa, qb, qc, qd, rfl, hq, c0, c1, c2, c3⟩ := (hr.below hb).q4 hlt
          have Ho := hd ho; have Hb := hd hb
          clear ho hb
          obtain ⟨wo, hwo⟩ : ∃ wo : World, wo = wr := ⟨_, rfl⟩
          subst hwo
          go_wp2
          have HB2 := hd (show Below wo.heap.size wo (wo.alloc (.cells #[.int .i64 qa, .int .i64 qb, .int .i64 qc, .int .i64 qd] 109)) from (Below.refl _ _).alloc (Nat.le_refl _) _)
          have HD := hd (show Dj (.slice (some ⟨wo.heap.size, 0, none⟩) 4 4) _ from fun k hk he => by
            have := own_in Ho.out k he
            simp [Value.ownBlock] at hk
            omega)
          clear c0 c1 c2 c3
          go_loopw [6, 28] (fun out ix wr => ∃ k : Nat, k ≤ n ∧ ix = .int .i64 k ∧ wr.ownsRow w.heap.size 4 1 out (i * n + k) ((partF l ms (i * n + k)).map vb) ∧ Dj (.slice (some ⟨wo.heap.size, 0, none⟩) 4 4) out ∧ (wr.cell? ⟨wo.heap.size, 0, none⟩ = some (.int .i64 qa) ∧ wr.cell? ⟨wo.heap.size, 1, none⟩ = some (.int .i64 qb) ∧ wr.cell? ⟨wo.heap.size, 2, none⟩ = some (.int .i64 qc) ∧ wr.cell? ⟨wo.heap.size, 3, none⟩ = some (.int .i64 qd)) ∧ Below w.heap.size w wr) (fun _ i _ => n - (intOf i).toNat)
          case atStart => exact ⟨0, by omega, rfl, by simpa using own_below Ho.out HB2.out, HD.out, by simp [go_sem], below_tr HB2.out Hb.out⟩
          case round =>
            obtain ⟨k, hk, rfl, ho, hdj, ⟨x0, x1, x2, x3⟩, hb⟩ := hrel
            clear Ho HD HB2
            by_cases hkt : k < n
            · obtain ⟨b', off', ra, rb, rc, rd, hA, hq', d0, d1, d2, d3⟩ := (hr.below hb).q4 hkt
              cases hA
              obtain ⟨nc0, nd, rfl, rfl, _, g2, _, _, g3, g4⟩ := TQ.out _ _ _ _ _ hq.out
              obtain ⟨nc, nd0, rfl, rfl, g1, _, _⟩ := TQ.out _ _ _ _ _ hq'.out
              obtain ⟨m0, m1⟩ := MA.out nd nc g2 g1
              obtain ⟨wi, hwi⟩ : ∃ wi : World, wi = wr := ⟨_, rfl⟩
              subst hwi
              have hbB : Below wi.heap.size wi (wi.alloc (.cells #[.int .i64 ra, .int .i64 rb, .int .i64 nc, .int .i64 nd0] 109)) := (Below.refl _ _).alloc (Nat.le_refl _) _
              have F := hd (FO.out _ qa qb nc0 ra rb nd0 nd nc (below_tr hbB hb) g2 g1 g3 g4 m0 m1)
              have C := hd ((CA.out i k _ _ hq.out hq'.out).trans (folB_nat ms qa qb nc0 ra rb nd0 nd nc))
              generalize decide (qb + ms.getD (nd * 8 + nc) 0 ≤ ra) = y at *
              have hlen : i * n + k ≤ 1048576 := by
                have : i * n ≤ 24 * 24 := Nat.mul_le_mul (by omega) (by omega)
                omega
              have hlt9 : wo.heap.size < wi.heap.size := block_lt_of_cell x0
              have Ho := hd ho; have Hb := hd hb; have HD := hd hdj; have HbB := hd hbB
              have X := hd (And.intro x0 (And.intro x1 (And.intro x2 x3)))
              clear ho hb hdj hbB m0 m1 g1 g2 g3 g4 hr
              go_wp2_with (first
                | (go_at_call 92; refine F.out.mono ?_; rintro e w2 ⟨rfl, hb2⟩)
                | (at_builtin; go_must (refine wpList_app_bool _ _ _ rfl _ _ rfl w.heap.size (i * n + k) _ _ rfl (own_below Ho.out (below_tr hb2 HbB.out)) rfl _ rfl (by simp) hlen (by have := Hb.out.size; have := HbB.out.size; have := hb2.size; omega) ?_); intro v' w1 ho1 hg1 hap))
              go_roundw
              case rel =>
                have hb3 := below_tr hb2 HbB.out
                have hin := own_in (own_below Ho.out hb3)
                have hgs : ∀ (o : Nat) (z : Value), wi.cell? ⟨wo.heap.size, o, none⟩ = some z → w1.cell? ⟨wo.heap.size, o, none⟩ = some z := fun o z hz => hg1.cell (below_at hb3 hz) (fun e => HD.out wo.heap.size rfl e.symm)
                refine ⟨k + 1, by omega, by go_num, ?_, ?_, ⟨hgs _ _ X.out.1, hgs _ _ X.out.2.1, hgs _ _ X.out.2.2.1, hgs _ _ X.out.2.2.2⟩, below_row hg1 (below_tr hb3 Hb.out) (own_row Ho.out (Nat.le_refl _))⟩
                · rw [← Nat.add_assoc, partF_succ, List.map_append, C.out]
                  exact ho1
                · exact hap _ (fun j hj => by simp [Value.ownBlock] at hj; have := hb3.size; omega) HD.out
              case measure => simp [intOf]; omega
            · have e : k = n := by omega
              subst e
              have Ho := hd ho; have Hb := hd hb
              clear ho hb hdj x0 x1 x2 x3
              go_wp2
              go_roundw
              case rel => exact ⟨i + 1, by omega, by go_num, by rw [Nat.succ_mul]; exact Ho.out, Hb.out⟩
              case measure => simp [intOf]; omega
        · have e : i = n := by omega
          subst e
          go_wp2
          go_ret2
          rw [H.out]
          refine ⟨_, rfl, ?_, hb⟩
          simp only [PL.out]
          exact ho

set_option maxHeartbeats 2000000 in
set_option maxRecDepth 100000 in
theorem walk (w : World) (v0 : Value) (x0 : List Q4) (i0 : ∀ x ∈ x0, x.I64) (s0 : Sl w 4 v0 x0.length (q4s x0)) (v1 : Value) (x1 : List Int) (i1 : ∀ x ∈ x1, I64 x) (s1 : Sl w 1 v1 x1.length (x1.map vi)) :
    Calls Try.prog 8 #[v0, v1] w fun e w' => e = .returned (.bool true) ∧ Below w.heap.size w w' := by
  obtain ⟨A0, cap0, hw0, _, hr0⟩ := id s0
  have hv0 := hd hw0; clear hw0
  obtain ⟨A1, cap1, hw1, _, hr1⟩ := id s1
  have hv1 := hd hw1; clear hw1
  have hm0 := hr0.2.1
  have hm1 := hr1.2.1
  by_cases b1 : x1.length ≤ 1048576
  rotate_left
  · have e1 := hv1.out; subst e1
    unfold maxLen at hm1
    have hx' : ¬ ((x1.length : Int) ≤ 1048576) := by omega
    go_enter Try.func8, Try.ntmps8
    go_wp2
    go_ret
    exact ⟨rfl, Below.refl _ _⟩
  have hz0 := hd (szTripS_any v0 x0.length (1048576) w ⟨A0, cap0, hv0.out, hm0⟩ (by omega) (by omega))
  by_cases c0 : (1048576 : Int) < x0.length
  · rw [if_pos c0] at hz0
    have e1 := hv1.out; subst e1
    have hx1 : (x1.length : Int) ≤ 1048576 := by omega
    go_enter Try.func8, Try.ntmps8
    go_wp2_with fail
    refine hz0.out.mono ?_; rintro e w' ⟨rfl, rfl⟩
    go_wp2
    go_ret
    exact ⟨rfl, Below.refl _ _⟩
  rw [if_neg c0] at hz0
  have l0 : (0 : Int) ≤ 1048576 - x0.length := by omega
  have b0 : x0.length ≤ 1048576 := by omega
  have hx1 : (x1.length : Int) ≤ 1048576 := by omega
  have z0 := size_le b0
  have z1 := size_le b1
  have bg := len_ok x0 i0 b0 x1 i1 b1
  have zg := size_le bg
  have hB := Below.refl w.heap.size w
  clear hr0 hm0
  clear hr1 hm1
  clear hv0
  have e1 := hv1.out; subst e1; clear hv1
  go_enter Try.func8, Try.ntmps8
  go_wp2_with fail
  refine hz0.out.mono ?_; rintro e w' ⟨rfl, rfl⟩
  clear hz0
  go_wp2_with fail
  refine (toTripS_any _ x0 _ (s0.below hB) b0).mono ?_; rintro e w1 ⟨s0_, rfl, ho_s0_, hb⟩
  replace ho_s0_ := own_mono ho_s0_ hB.size
  replace hB := below_tr hb hB
  clear hb
  go_wp2_with fail
  refine (toInt64S_any _ x1 _ (s1.below hB) b1).mono ?_; rintro e w2 ⟨s1_, rfl, ho_s1_, hb⟩
  have d_s0__s1_ := dj_new ho_s0_ ho_s1_
  replace ho_s0_ := own_below ho_s0_ hb
  replace ho_s1_ := own_mono ho_s1_ hB.size
  replace hB := below_tr hb hB
  clear hb
  go_wp2_with fail
  refine (spec_any _ _ x0 i0 b0 (own_sl ho_s0_ z0) _ x1 i1 b1 (own_sl ho_s1_ z1)).mono ?_; rintro e w3 ⟨w0, rfl, ho_w0, hb⟩
  have d_s0__w0 := dj_new ho_s0_ ho_w0
  have d_s1__w0 := dj_new ho_s1_ ho_w0
  replace ho_s0_ := own_below ho_s0_ hb
  replace ho_s1_ := own_below ho_s1_ hb
  replace ho_w0 := own_mono ho_w0 hB.size
  replace hB := below_tr hb hB
  clear hb
  clear ho_s0_ d_s0__s1_ d_s0__w0
  clear ho_s1_ d_s1__w0
  go_wp2_with fail
  refine (toTripS_any _ x0 _ (s0.below hB) b0).mono ?_; rintro e w4 ⟨x0_, rfl, ho_x0_, hb⟩
  have d_w0_x0_ := dj_new ho_w0 ho_x0_
  replace ho_w0 := own_below ho_w0 hb
  replace ho_x0_ := own_mono ho_x0_ hB.size
  replace hB := below_tr hb hB
  clear hb
  go_wp2_with fail
  refine (toInt64S_any _ x1 _ (s1.below hB) b1).mono ?_; rintro e w5 ⟨x1_, rfl, ho_x1_, hb⟩
  have d_w0_x1_ := dj_new ho_w0 ho_x1_
  have d_x0__x1_ := dj_new ho_x0_ ho_x1_
  replace ho_w0 := own_below ho_w0 hb
  replace ho_x0_ := own_below ho_x0_ hb
  replace ho_x1_ := own_mono ho_x1_ hB.size
  replace hB := below_tr hb hB
  clear hb
  go_wp2_with fail
  refine (impl_any _ _ x0 i0 b0 (own_sl ho_x0_ z0) _ x1 i1 b1 (own_sl ho_x1_ z1)).mono ?_; rintro e w6 ⟨g0, rfl, ho_g0, hb⟩
  have d_w0_g0 := dj_new ho_w0 ho_g0
  have d_x0__g0 := dj_new ho_x0_ ho_g0
  have d_x1__g0 := dj_new ho_x1_ ho_g0
  replace ho_w0 := own_below ho_w0 hb
  replace ho_x0_ := own_below ho_x0_ hb
  replace ho_x1_ := own_below ho_x1_ hb
  replace ho_g0 := own_mono ho_g0 hB.size
  replace hB := below_tr hb hB
  clear hb
  go_wp2_with fail
  refine (eqBoolS_b _ _ _ _ _ (own_sl ho_g0 zg) (own_sl ho_w0 zg)).mono ?_; rintro e w7 ⟨rfl, hb⟩
  replace ho_w0 := own_below ho_w0 hb
  replace ho_x0_ := own_below ho_x0_ hb
  replace ho_x1_ := own_below ho_x1_ hb
  replace ho_g0 := own_below ho_g0 hb
  replace hB := below_tr hb hB
  clear hb
  go_wp2_with fail
  refine (toTripS_any _ x0 _ (s0.below hB) b0).mono ?_; rintro e w8 ⟨c0_, rfl, ho_c0_, hb⟩
  have d_w0_c0_ := dj_new ho_w0 ho_c0_
  have d_x0__c0_ := dj_new ho_x0_ ho_c0_
  have d_x1__c0_ := dj_new ho_x1_ ho_c0_
  have d_g0_c0_ := dj_new ho_g0 ho_c0_
  replace ho_w0 := own_below ho_w0 hb
  replace ho_x0_ := own_below ho_x0_ hb
  replace ho_x1_ := own_below ho_x1_ hb
  replace ho_g0 := own_below ho_g0 hb
  replace ho_c0_ := own_mono ho_c0_ hB.size
  replace hB := below_tr hb hB
  clear hb
  go_wp2_with fail
  refine (eqTripS_any _ _ x0 x0 _ (own_sl ho_x0_ z0) (own_sl ho_c0_ z0)).mono ?_; rintro e w9 ⟨rfl, hb⟩
  replace ho_w0 := own_below ho_w0 hb
  replace ho_x0_ := own_below ho_x0_ hb
  replace ho_x1_ := own_below ho_x1_ hb
  replace ho_g0 := own_below ho_g0 hb
  replace ho_c0_ := own_below ho_c0_ hb
  replace hB := below_tr hb hB
  clear hb
  clear ho_c0_ d_w0_c0_ d_x0__c0_ d_x1__c0_ d_g0_c0_
  go_wp2_with fail
  refine (toInt64S_any _ x1 _ (s1.below hB) b1).mono ?_; rintro e w10 ⟨c1_, rfl, ho_c1_, hb⟩
  have d_w0_c1_ := dj_new ho_w0 ho_c1_
  have d_x0__c1_ := dj_new ho_x0_ ho_c1_
  have d_x1__c1_ := dj_new ho_x1_ ho_c1_
  have d_g0_c1_ := dj_new ho_g0 ho_c1_
  replace ho_w0 := own_below ho_w0 hb
  replace ho_x0_ := own_below ho_x0_ hb
  replace ho_x1_ := own_below ho_x1_ hb
  replace ho_g0 := own_below ho_g0 hb
  replace ho_c1_ := own_mono ho_c1_ hB.size
  replace hB := below_tr hb hB
  clear hb
  go_wp2_with fail
  refine (eqInt64S_b _ _ x1 x1 _ (own_sl ho_x1_ z1) (own_sl ho_c1_ z1)).mono ?_; rintro e w11 ⟨rfl, hb⟩
  replace ho_w0 := own_below ho_w0 hb
  replace ho_x0_ := own_below ho_x0_ hb
  replace ho_x1_ := own_below ho_x1_ hb
  replace ho_g0 := own_below ho_g0 hb
  replace ho_c1_ := own_below ho_c1_ hb
  replace hB := below_tr hb hB
  clear hb
  clear ho_c1_ d_w0_c1_ d_x0__c1_ d_x1__c1_ d_g0_c1_
  go_wp2_with fail
  have hrow := own_row ho_x0_ (Nat.le_refl _)
  refine (markTripS_any _ _ _ _ (1) _ ho_x0_ b0 (by omega) (by omega)).mono ?_; rintro e w12 ⟨rfl, ho', hg⟩
  replace ho_w0 := own_kept ho_w0 hg d_w0_x0_
  replace ho_x1_ := own_kept ho_x1_ hg (dj_symm d_x0__x1_)
  replace ho_g0 := own_kept ho_g0 hg (dj_symm d_x0__g0)
  replace ho_x0_ := ho'
  replace hB := below_row hg hB hrow
  clear hg hrow ho'
  go_wp2_with fail
  have hrow := own_row ho_x1_ (Nat.le_refl _)
  refine (markInt64S_any _ _ _ _ (1 + (x0.length : Int) * 4) _ ho_x1_ b1 (by omega) (by omega)).mono ?_; rintro e w13 ⟨rfl, ho', hg⟩
  replace ho_w0 := own_kept ho_w0 hg d_w0_x1_
  replace ho_x0_ := own_kept ho_x0_ hg d_x0__x1_
  replace ho_g0 := own_kept ho_g0 hg (dj_symm d_x1__g0)
  replace ho_x1_ := ho'
  replace hB := below_row hg hB hrow
  clear hg hrow ho'
  clear ho_x0_ d_w0_x0_ d_x0__x1_ d_x0__g0
  clear ho_x1_ d_w0_x1_ d_x1__g0
  go_wp2_with fail
  refine (eqBoolS_b _ _ _ _ _ (own_sl ho_g0 zg) (own_sl ho_w0 zg)).mono ?_; rintro e w14 ⟨rfl, hb⟩
  replace ho_w0 := own_below ho_w0 hb
  replace ho_g0 := own_below ho_g0 hb
  replace hB := below_tr hb hB
  clear hb
  go_wp2_with fail
  have hrow := own_row ho_g0 (Nat.le_refl _)
  refine (markBoolS_any _ _ _ _ 1 _ ho_g0 bg (by omega) (by omega)).mono ?_; rintro e w15 ⟨rfl, ho', hg⟩
  replace ho_w0 := own_kept ho_w0 hg d_w0_g0
  replace ho_g0 := ho'
  replace hB := below_row hg hB hrow
  clear hg hrow ho'
  go_wp2_with fail
  refine (heldBoolS_b _ _ 1 _ (own_sl ho_g0 zg) bg (by omega) (by omega)).mono ?_; rintro e w16 ⟨rfl, hb⟩
  replace ho_w0 := own_below ho_w0 hb
  replace ho_g0 := own_below ho_g0 hb
  replace hB := below_tr hb hB
  clear hb
  go_wp2_with fail
  refine (toTripS_any _ x0 _ (s0.below hB) b0).mono ?_; rintro e w17 ⟨t0_, rfl, ho_t0_, hb⟩
  have d_w0_t0_ := dj_new ho_w0 ho_t0_
  have d_g0_t0_ := dj_new ho_g0 ho_t0_
  replace ho_w0 := own_below ho_w0 hb
  replace ho_g0 := own_below ho_g0 hb
  replace ho_t0_ := own_mono ho_t0_ hB.size
  replace hB := below_tr hb hB
  clear hb
  go_wp2_with fail
  refine (toInt64S_any _ x1 _ (s1.below hB) b1).mono ?_; rintro e w18 ⟨t1_, rfl, ho_t1_, hb⟩
  have d_w0_t1_ := dj_new ho_w0 ho_t1_
  have d_g0_t1_ := dj_new ho_g0 ho_t1_
  have d_t0__t1_ := dj_new ho_t0_ ho_t1_
  replace ho_w0 := own_below ho_w0 hb
  replace ho_g0 := own_below ho_g0 hb
  replace ho_t0_ := own_below ho_t0_ hb
  replace ho_t1_ := own_mono ho_t1_ hB.size
  replace hB := below_tr hb hB
  clear hb
  go_wp2_with fail
  refine (impl_any _ _ x0 i0 b0 (own_sl ho_t0_ z0) _ x1 i1 b1 (own_sl ho_t1_ z1)).mono ?_; rintro e w19 ⟨h0, rfl, ho_h0, hb⟩
  have d_w0_h0 := dj_new ho_w0 ho_h0
  have d_g0_h0 := dj_new ho_g0 ho_h0
  have d_t0__h0 := dj_new ho_t0_ ho_h0
  have d_t1__h0 := dj_new ho_t1_ ho_h0
  replace ho_w0 := own_below ho_w0 hb
  replace ho_g0 := own_below ho_g0 hb
  replace ho_t0_ := own_below ho_t0_ hb
  replace ho_t1_ := own_below ho_t1_ hb
  replace ho_h0 := own_mono ho_h0 hB.size
  replace hB := below_tr hb hB
  clear hb
  go_wp2_with fail
  refine (eqBoolS_b _ _ _ _ _ (own_sl ho_h0 zg) (own_sl ho_w0 zg)).mono ?_; rintro e w20 ⟨rfl, hb⟩
  replace ho_w0 := own_below ho_w0 hb
  replace ho_g0 := own_below ho_g0 hb
  replace ho_t0_ := own_below ho_t0_ hb
  replace ho_t1_ := own_below ho_t1_ hb
  replace ho_h0 := own_below ho_h0 hb
  replace hB := below_tr hb hB
  clear hb
  go_wp2_with fail
  refine (heldBoolS_b _ _ 1 _ (own_sl ho_g0 zg) bg (by omega) (by omega)).mono ?_; rintro e w21 ⟨rfl, hb⟩
  replace ho_w0 := own_below ho_w0 hb
  replace ho_g0 := own_below ho_g0 hb
  replace ho_t0_ := own_below ho_t0_ hb
  replace ho_t1_ := own_below ho_t1_ hb
  replace ho_h0 := own_below ho_h0 hb
  replace hB := below_tr hb hB
  clear hb
  go_wp2_with fail
  go_ret
  exact ⟨rfl, hB⟩

theorem own : ownKnob Try.prog.godebug = none := by kernel_rfl
theorem laidOut : laidOutB Try.prog = true := by kernel_rfl

set_option maxRecDepth 100000 in
theorem lifted (os : Os) (started : os.Started) (H : Type) (enc : TypeId × Value → H) :
    ReturnsInHanded {} Try.checked os 8 .any (Rows.fnExactCanFollowSpec.pre6 enc Try.prog Try.f8 Rows.fnExactCanFollowRow.domain false) (Rows.fnExactCanFollowSpec.post enc Try.prog Try.f8 false true false false) := by
  refine returnsInHanded_of_change (C := Try.checked) own started (by as_aux_lemma => kernel_rfl) Try.func8
    (ChangeSpec.witness6 (enc := enc) (C := Try.checked) false ⟨#[], #[.slice none 0 0, .slice none 0 0], []⟩ 8 (by as_aux_lemma => kernel_rfl) (by as_aux_lemma => kernel_rfl) (by as_aux_lemma => kernel_rfl) (by as_aux_lemma => kernel_rfl)) ?_
  intro W base args ds gs before hval0 hW hcnd _
  have hval : ∀ (j : Nat) t v, Try.f8.params[j]? = some t → args[j]? = some v → Value.okWide Try.prog W .any base t v := hval0
  have hW' := hW
  obtain ⟨p, q, hA0, hV, rfl, hfz, hnd⟩ := hW
  have hA : DataW.TrodAll enc Try.prog W 0 (fun _ => true) true Try.f8.params.toList args.toList ds p := hA0
  rw [Try.params8] at hA hval
  obtain ⟨v0, vs0, d0, ds0, p0, q0, hargs, rfl, rfl, h0, r0⟩ := trodAll_cons hA
  obtain ⟨v1, vs1, d1, ds1, p1, q1, rfl, rfl, rfl, h1, r1⟩ := trodAll_cons r0
  obtain ⟨rfl, rfl, rfl⟩ := trodAll_nil r1
  obtain rfl : args = #[v0, v1] := by cases args; simp_all
  obtain ⟨rfl, rfl⟩ := trodVars_none hV
  have k0 := h0
  have lt0 : ∀ x ∈ p0, x.block < W.heap.size := by obtain ⟨m, hm⟩ := k0; exact DataW.trod_lt m _ _ _ hm
  obtain ⟨s0, len0, cap0, rfl⟩ := okWide_slice Try.underlying48 (hval 0 48 v0 rfl rfl)
  obtain ⟨x0, _, i0, w0⟩ := arg_q4 Try.underlying48 Try.underlying111 Try.underlying2 rfl (by as_aux_lemma => kernel_rfl) (by as_aux_lemma => kernel_rfl) h0
  have k1 := h1
  have lt1 : ∀ x ∈ p1, x.block < W.heap.size := by obtain ⟨m, hm⟩ := k1; exact DataW.trod_lt m _ _ _ hm
  obtain ⟨s1, len1, cap1, rfl⟩ := okWide_slice Try.underlying22 (hval 1 22 v1 rfl rfl)
  obtain ⟨x1, _, i1, w1⟩ := arg_ints Try.underlying22 Try.underlying2 (by as_aux_lemma => kernel_rfl) h1
  clear hA0 hval0
  refine (walk W _ x0 i0 w0 _ x1 i1 w1).mono fun e W' ⟨he, bel⟩ => ?_
  subst he
  exact ⟨_, rfl, _, _, _, [], _, [], hW', trodAll_mk1 (shut_bool Try.underlying4 _), (trodAll_cons_mk (Below.trod laidOut (by as_aux_lemma => kernel_rfl) (of_decide_eq_true (by as_aux_lemma => kernel_rfl)) k0 bel lt0) (trodAll_cons_mk (Below.trod laidOut (by as_aux_lemma => kernel_rfl) (of_decide_eq_true (by as_aux_lemma => kernel_rfl)) k1 bel lt1) (trodAll_mk0))), rfl, bel.frame _, fun h => by cases h⟩

/-- The given statement. -/
theorem proved : Rows.FnExactCanFollowSaid :=
  OpenClaim.holds_of_wide 8 Try.f8 rfl rfl rfl rfl rfl rfl rfl ⟨rfl, rfl, rfl, rfl, rfl⟩ rfl rfl rfl rfl rfl (by kernel_rfl) Try.func8 (by kernel_rfl)
    (of_decide_eq_true (by kernel_rfl)) (by unfold Func.isWrapper; first | (rw [if_pos (by decide +kernel)]; kernel_rfl) | (rw [if_neg (by decide +kernel)]; exact ⟨rfl, rfl⟩))
    (fun os started H enc _ => lifted os started H enc)
#print axioms proved

end Go.Proofs.Ytahhmpaaggeakaa.lFnExactCanFollow
