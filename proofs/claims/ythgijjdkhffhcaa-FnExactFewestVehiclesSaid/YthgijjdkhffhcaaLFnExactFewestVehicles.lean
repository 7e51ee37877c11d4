/- Whatever trips and moves are given, the program's FewestVehicles and the reference's return the same list, count and bool, in new memory, and the law's own copies are left as they were: the law returns true. No condition. -/
import Derived.Test.YthgijjdkhffhcaaRows
import Derived.Test.YthgijjdkhffhcaaSlice
import Derived.Test.YthgijjdkhffhcaaQSlice
import Derived.Test.YthgijjdkhffhcaaVeh
import Derived.Test.YthgijjdkhffhcaaOpen
namespace Go.Proofs.Ythgijjdkhffhcaa.lFnExactFewestVehicles
open Go.ChangeShapes Go.WideShapes Go.ChangeAt Go.RowKit Go.Proofs.Ythgijjdkhffhcaa Plain
set_option linter.unusedVariables false
set_option linter.unusedSimpArgs false
attribute [local go_sem ↓] Go.wp_at_zero Go.wp_at_succ

def okV (l : List Q4) (ms : List Int) : Bool := tripsB l && movesB ms
def M (l : List Q4) (ms : List Int) : List Int × Int × Bool := if okV l ms then ((vehV (poV l ms) (nxV l ms) 10001 (List.replicate l.length (-1)) l.length).1, ((vehV (poV l ms) (nxV l ms) 10001 (List.replicate l.length (-1)) l.length).2 : Int), true) else ([], 0, false)
theorem M_no {l : List Q4} {ms : List Int} (h : okV l ms = false) : M l ms = ([], 0, false) := by rw [M, h]; rfl
theorem M_yes {l : List Q4} {ms : List Int} (h : okV l ms = true) : M l ms = ((vehV (poV l ms) (nxV l ms) 10001 (List.replicate l.length (-1)) l.length).1, ((vehV (poV l ms) (nxV l ms) 10001 (List.replicate l.length (-1)) l.length).2 : Int), true) := by rw [M, h]; rfl
theorem len_ok (l : List Q4) (_i : ∀ q ∈ l, q.I64) (_b : l.length ≤ 1048576) (ms : List Int) (_j : ∀ x ∈ ms, I64 x) (_c : ms.length ≤ 1048576) : (M l ms).1.length ≤ 1048576 := by
  cases h : okV l ms with
  | false => rw [M_no h]; simp
  | true => rw [M_yes h, veh_len]; simpa using _b
def mV (l : List Q4) (z : Int) : Nat := if z < 0 then 0 else 10001 - stV l z.toNat
theorem mV_step {l : List Q4} {x : Nat} {z : Int} (hs : ∀ x, stV l x ≤ 10000) (h : z = -1 ∨ ∃ k : Nat, z = k ∧ k < l.length ∧ stV l x < stV l k) : mV l z < mV l (x : Int) := by
  have := hs x
  unfold mV
  rw [if_neg (show ¬ (x : Int) < 0 by omega), Int.toNat_natCast]
  rcases h with rfl | ⟨k, rfl, _, hk⟩
  · rw [if_pos (by omega)]; omega
  · have := hs k
    rw [if_neg (by omega), Int.toNat_natCast]; omega
theorem veh_no {po : List Int} {nx : Nat → Int} {F : Nat} {o : List Int} {i : Nat} (h : 0 ≤ po.getD i 0) : vehV po nx F o (i + 1) = vehV po nx F o i := by rw [vehV, if_pos h]
theorem veh_yes {po : List Int} {nx : Nat → Int} {F : Nat} {o : List Int} {i : Nat} (h : po.getD i 0 < 0) : vehV po nx F o (i + 1) = (paintV nx (vehV po nx F o i).2 F i (vehV po nx F o i).1, (vehV po nx F o i).2 + 1) := by rw [vehV, if_neg (by omega)]
theorem veh_cnt (po : List Int) (nx : Nat → Int) (F : Nat) (o : List Int) (i : Nat) : (vehV po nx F o i).2 ≤ i := by
  induction i with
  | zero => exact Nat.le_refl _
  | succ i ih =>
    rw [vehV]; split
    · omega
    · show (vehV po nx F o i).2 + 1 ≤ _; omega
theorem paint_step {nx : Nat → Int} {ct F x : Nat} {out : List Int} : paintV nx ct (F + 1) (x : Int) out = paintV nx ct F (nx x) (out.set x ct) := by rw [paintV, if_neg (by omega), Int.toNat_natCast]

set_option maxHeartbeats 4000000 in
set_option maxRecDepth 100000 in
theorem impl_any (w : World) (v : Value) (l : List Q4) (_i : ∀ q ∈ l, q.I64) (_b : l.length ≤ 1048576) (s : Sl w 4 v l.length (q4s l)) (u : Value) (ms : List Int) (_j : ∀ x ∈ ms, I64 x) (_c : ms.length ≤ 1048576) (t : Sl w 1 u ms.length (ms.map vi)) :
    Calls Try.prog 28 #[v, u] w (OutL 2 1 (M l ms).1.length ((M l ms).1.map vi) (fun z => .tuple #[z, .int .i64 (M l ms).2.1, .bool (M l ms).2.2]) w) := by
  have A1 := hd (fun w' (h : Below w.heap.size w w') => AreTrips_any v l w' (s.below h))
  have A2 := hd (fun w' (h : Below w.heap.size w w') => AreMoves_any u ms w' (t.below h))
  have S1 := hd s
  have S2 := hd t
  obtain ⟨P1, c1, rfl, hc1, _⟩ := id s
  obtain ⟨P2, c2, rfl, hc2, _⟩ := id t
  clear s t _i _j
  have hbW : Below w.heap.size w ((w.alloc (.cells #[.slice P1 l.length c1] 49)).alloc (.cells #[.slice P2 ms.length c2] 30)) := by go_grown
  have k1 : ((w.alloc (.cells #[.slice P1 l.length c1] 49)).alloc (.cells #[.slice P2 ms.length c2] 30)).cell? ⟨w.heap.size, 0, none⟩ = some (.slice P1 l.length c1) := by simp [go_sem]
  have k2 : ((w.alloc (.cells #[.slice P1 l.length c1] 49)).alloc (.cells #[.slice P2 ms.length c2] 30)).cell? ⟨w.heap.size + 1, 0, none⟩ = some (.slice P2 ms.length c2) := by simp [go_sem]
  have HBW := hd hbW
  have K1 := hd k1
  have K2 := hd k2
  clear k1 k2
  cases hok : okV l ms with
  | false =>
    have H := hd (M_no hok)
    rw [H.out]
    unfold okV at hok
    clear S1 S2
    generalize tripsB l = b1 at *
    generalize movesB ms = b2 at *
    generalize l.length = n1 at *
    generalize ms.length = n2 at *
    cases b1 <;> cases b2
    all_goals first
      | (exfalso; simp at hok; done)
      | (clear hok hbW
         go_enter Try.func28, Try.ntmps28
         go_wp2_with (first
           | (go_at_call 63; refine (A1.out _ HBW.out).mono ?_; rintro e w1 ⟨rfl, hb1⟩; have kk2 := below_at hb1 K2.out)
           | (go_at_call 64; refine (A2.out _ (below_tr hb1 HBW.out)).mono ?_; rintro e w' ⟨rfl, hw⟩; subst hw))
         refine bodyPost_ret (by simp [results, Try.results28, go_sem] <;> rfl) rfl ⟨_, rfl, World.ownsRow_nil _ _ _ _, below_tr hb1 HBW.out⟩)
  | true =>
    have H := hd (M_yes hok)
    have hab : tripsB l = true ∧ movesB ms = true := by simpa [okV] using hok
    rw [hab.1] at A1
    rw [hab.2] at A2
    obtain ⟨n1, n2⟩ := trips_len hab.1
    have MQ := hd (fun w' (hb : Below w.heap.size w w') (c1 : w'.cell? ⟨w.heap.size, 0, none⟩ = _) (c2 : w'.cell? ⟨w.heap.size + 1, 0, none⟩ = _) => match_FewestVehicles (fitV l ms) l.length l.length w.heap.size (w.heap.size + 1) w' n1 n2 n2 (hd (fun w'' h i k hi hk => fv_any l ms w.heap.size (w.heap.size + 1) _ _ w'' (S1.out.below (below_tr h hb)) (S2.out.below (below_tr h hb)) hab.1 hab.2 (below_at h c1) (below_at h c2) i k hi hk)))
    have PF := hd (po_facts (l := l) (ms := ms))
    have NF := hd (nx_facts (ms := ms) hab.1 hab.2)
    have SL := hd (stV_le hab.1)
    have MS := hd (fun x z h => mV_step (l := l) (x := x) (z := z) SL.out h)
    have IX := hd (fun v x w' hs => index_any v (poV l ms) x w' hs (by rw [PF.out.1]; omega))
    rw [PF.out.1] at IX
    have NN := hd (fun w' => none_any l.length n1 (by omega) w')
    have NE := hd (show ∀ x, nxV l ms x = firstI (poV l ms) x l.length from fun _ => rfl)
    have VL := hd (fun o i => veh_len (poV l ms) (nxV l ms) 10001 o i)
    have VC := hd (fun o i => veh_cnt (poV l ms) (nxV l ms) 10001 o i)
    have VN := hd (fun o i h => veh_no (po := poV l ms) (nx := nxV l ms) (F := 10001) (o := o) (i := i) h)
    have VY := hd (fun o i h => veh_yes (po := poV l ms) (nx := nxV l ms) (F := 10001) (o := o) (i := i) h)
    have PS := hd (fun ct F x o => paint_step (nx := nxV l ms) (ct := ct) (F := F) (x := x) (out := o))
    have PE := hd (fun ct F a o h => paint_end (nx := nxV l ms) (ct := ct) (F := F) (a := a) (out := o) h)
    have SM := hd (show ∀ x : Nat, mV l (x : Int) = 10001 - stV l x from fun x => by unfold mV; rw [if_neg (by omega), Int.toNat_natCast])
    rw [H.out]
    simp only
    rw [VL.out, List.length_replicate]
    rw [show matM (fitV l ms) l.length l.length = poV l ms from rfl] at MQ
    have V0 := hd (show vehV (poV l ms) (nxV l ms) 10001 (List.replicate l.length (-1)) 0 = (List.replicate l.length (-1), 0) from rfl)
    clear hok hab S1 S2 H hbW
    generalize poV l ms = po at *
    generalize nxV l ms = nx at *
    generalize mV l = m at *
    obtain ⟨sg, hsg⟩ : ∃ sg, sg = stV l := ⟨_, rfl⟩
    rw [← hsg] at SL MS SM NF
    generalize l.length = n at *
    have HO0 := hd (show (List.replicate n (-1 : Int)).map vi = List.replicate n (.int .i64 (-1)) by simp [vi])
    have HOL := hd (List.length_replicate (n := n) (a := (-1 : Int)))
    generalize List.replicate n (-1 : Int) = o0 at *
    clear hsg
    go_enter Try.func28, Try.ntmps28
    go_wp2_with (first
      | (go_at_call 63; refine (A1.out _ HBW.out).mono ?_; rintro e w1 ⟨rfl, hb1⟩; have kk1 := below_at hb1 K1.out; have kk2 := below_at hb1 K2.out; have HB1 := hd (below_tr hb1 HBW.out); clear hb1)
      | (go_at_call 64; refine (A2.out _ HB1.out).mono ?_; rintro e w' ⟨rfl, hw⟩; subst hw)
      | (go_at_call 47; refine (MQ.out _ HB1.out kk1 kk2).mono ?_; rintro e w2 ⟨ofv, rfl, ho2, hb2⟩; have kk3 := below_at hb2 kk1; have HB2 := hd (below_tr hb2 HB1.out); have HO2 := hd (own_mono ho2 HB1.out.size); obtain ⟨g1, d1, rfl, hg11, hg12⟩ := own_form ho2 n1; clear ho2 hb2)
      | (go_at_call 49; refine (NN.out _).mono ?_; rintro e w3 ⟨outv, rfl, ho3, hb3⟩; obtain ⟨g2, d2, rfl, hg21, hg22⟩ := own_form ho3 n1; have HP := hd (And.intro (own_below HO2.out hb3) (own_mono ho3 HB2.out.size)); have HB3 := hd (below_tr hb3 HB2.out); clear ho3 hb3))
    have hne : g1 ≠ g2 := by omega
    clear kk1 kk2 kk3 hg11
    go_loopw [9, 32] (fun ct ix wr => ∃ i : Nat, i ≤ n ∧ ix = .int .i64 i ∧ ct = .int .i64 ((vehV po nx 10001 o0 i).2 : Nat) ∧ Hid (wr.ownsRow w.heap.size 2 1 (.slice (some ⟨g1, 0, none⟩) n d1) n (po.map vi) ∧ wr.ownsRow w.heap.size 2 1 (.slice (some ⟨g2, 0, none⟩) n d2) n ((vehV po nx 10001 o0 i).1.map vi)) ∧ Hid (Below w.heap.size w wr)) (fun _ ix _ => n - (intOf ix).toNat)
    case atStart => exact ⟨0, by omega, rfl, by rw [V0.out]; rfl, hd (by rw [V0.out]; simp only; rw [HO0.out]; exact HP.out), HB3⟩
    case round =>
      clear HP HB3 HO2 HB2 HB1
      obtain ⟨i, hi, rfl, rfl, HP, HB⟩ := hrel
      by_cases hlt : i < n
      · have cq := own_int HP.out.1 hlt
        have hq := PF.out.2.2.2 i hlt
        have hle := VC.out o0 i
        have Y := hd (fun h => VY.out o0 i h)
        have N := hd (fun h => VN.out o0 i h)
        have HVL := hd (VL.out o0 i)
        generalize hv : po.getD i 0 = q at *
        clear hv
        obtain ⟨st, hst⟩ : ∃ st, st = vehV po nx 10001 o0 i := ⟨_, rfl⟩
        rw [← hst] at hle Y N HVL HP
        rw [← hst]
        clear hst
        obtain ⟨out0, ct⟩ := st
        simp only at hle Y N HVL HP
        simp only
        have j0 : (i : Int) < (n : Int) := by omega
        by_cases h0 : 0 ≤ q
        · have E := hd (N.out h0)
          clear Y N hq
          go_wp2
          go_roundw
          case rel => exact ⟨i + 1, by omega, by go_num, by rw [E.out], hd (by rw [E.out]; exact HP.out), HB⟩
          case measure => simp [intOf]; omega
        · have E := hd (Y.out (by omega))
          have wc : IntKind.i64.wrap ((ct : Int) + 1) = ((ct + 1 : Nat) : Int) := by rw [IntWalk.i64_in _ (by omega)]; push_cast; rfl
          have HG2 := hd (World.ownsRow.lt HP.out.2 g2 rfl)
          have SMi := hd (SL.out i)
          clear Y N hq
          go_wp2
          clear cq
          go_loopw [12] (fun at' wq => ∃ (a : Int) (F : Nat) (out : List Int), at' = .int .i64 a ∧ (a = -1 ∨ ∃ x : Nat, a = x ∧ x < n ∧ 10001 - sg x ≤ F) ∧ Hid (paintV nx ct F a out = paintV nx ct 10001 i out0) ∧ Hid (out.length = n) ∧ Hid (wq.ownsRow w.heap.size 2 1 (.slice (some ⟨g1, 0, none⟩) n d1) n (po.map vi) ∧ wq.ownsRow w.heap.size 2 1 (.slice (some ⟨g2, 0, none⟩) n d2) n (out.map vi)) ∧ Hid (Below w.heap.size w wq)) (fun at' _ => m (intOf at'))
          case atStart => exact ⟨i, 10001, out0, rfl, .inr ⟨i, rfl, hlt, by omega⟩, hd rfl, hd (by rw [HVL.out, HOL.out]), HP, HB⟩
          case round =>
            clear HP HB
            obtain ⟨a, F, out, rfl, ha, HE, HL, HP, HB⟩ := hrel
            rcases ha with rfl | ⟨x, rfl, hx, hF⟩
            · have E2 := hd (show paintV nx ct 10001 i out0 = out by rw [← HE.out]; exact PE.out _ _ _ _ (by omega))
              go_wp2
              go_roundw
              case rel =>
                refine ⟨i + 1, by omega, by go_num, by rw [E.out]; exact congrArg _ (by push_cast; rfl), hd ?_, HB⟩
                rw [E.out]
                simp only
                rw [E2.out]
                exact HP.out
              case measure => simp [intOf]; omega
            · have hsx := SL.out x
              obtain ⟨F', rfl⟩ : ∃ F', F = F' + 1 := ⟨F - 1, by omega⟩
              have E2 := hd (HE.out)
              have E3 := hd (PS.out ct F' x out)
              have NX := NF.out x hx
              have MX := hd (MS.out x (nx x) NX)
              have NXE := hd (NE.out x)
              have ho2 := HP.out.2
              have j1 : (0 : Int) ≤ (x : Int) := by omega
              have j2 : (x : Int) < (n : Int) := by omega
              have IX2 := hd (fun w' hs => IX.out (.slice (some ⟨g1, 0, none⟩) n d1) (x : Int) w' hs)
              clear HE
              generalize firstI po x n = y at *
              have NXE2 := NXE.out
              clear NXE
              subst NXE2
              go_wp2_with (first
                | ((with_reducible refine wpList_store_own _ w.heap.size 2 1 n d2 g2 _ ho2 size_int x (vi (ct : Int)) ?_ ?_ ?_ ?_ ?_); exact rfl; exact rfl; exact rfl; omega; intro w6 ho6 hg6; have HP6 := hd (And.intro (own_kept (u := .slice (some ⟨g2, 0, none⟩) n d2) HP.out.1 hg6 (dj_ne hne)) ho6); have HB6 := hd (belowB HB.out hg6 HG2.out.1 (Nat.le_refl _)); clear ho6 hg6)
                | (go_at_call 67; refine (IX2.out _ (own_sl HP6.out.1 (by unfold maxLen; omega))).mono ?_; rintro e w' ⟨rfl, hw⟩; replace hw := hw.symm; subst hw))
              go_roundw
              case rel =>
                refine ⟨nx x, F', out.set x ct, rfl, ?_, hd (by rw [← E2.out, E3.out]), hd (by rw [List.length_set]; exact HL.out), hd ⟨HP6.out.1, ?_⟩, HB6⟩
                · rcases NX with h | ⟨k, h1, h2, h3⟩
                  · exact .inl h
                  · exact .inr ⟨k, h1, h2, by omega⟩
                · rw [List.map_set]; exact HP6.out.2
              case measure => exact MX.out
      · have e : i = n := by omega
        subst e
        go_wp2
        refine bodyPost_ret (by simp [results, Try.results28, go_sem] <;> rfl) rfl ⟨_, rfl, HP.out.2, HB.out⟩

set_option maxHeartbeats 4000000 in
set_option maxRecDepth 100000 in
theorem spec_any (w : World) (v : Value) (l : List Q4) (_i : ∀ q ∈ l, q.I64) (_b : l.length ≤ 1048576) (s : Sl w 4 v l.length (q4s l)) (u : Value) (ms : List Int) (_j : ∀ x ∈ ms, I64 x) (_c : ms.length ≤ 1048576) (t : Sl w 1 u ms.length (ms.map vi)) :
    Calls Try.prog 26 #[v, u] w (OutL 2 1 (M l ms).1.length ((M l ms).1.map vi) (fun z => .tuple #[z, .int .i64 (M l ms).2.1, .bool (M l ms).2.2]) w) := by
  have A1 := hd (l06Trips_any v l w s)
  have A2 := hd (fun w' h => l06Moves_any u ms w' (t.below h))
  have S1 := hd s
  have S2 := hd t
  obtain ⟨P1, c1, rfl, hc1, _⟩ := id s
  obtain ⟨P2, c2, rfl, hc2, _⟩ := id t
  clear s t _i _j
  cases hok : okV l ms with
  | false =>
    have H := hd (M_no hok)
    rw [H.out]
    unfold okV at hok
    clear S1 S2
    generalize tripsB l = b1 at *
    generalize movesB ms = b2 at *
    generalize l.length = n1 at *
    generalize ms.length = n2 at *
    cases b1 <;> cases b2
    all_goals first
      | (exfalso; simp at hok; done)
      | (clear hok
         go_enter Try.func26, Try.ntmps26
         go_wp2_with (first
           | (go_at_call 59; refine A1.out.mono ?_; rintro e w1 ⟨rfl, hb1⟩)
           | (go_at_call 60; refine (A2.out _ hb1).mono ?_; rintro e w' ⟨rfl, hw⟩; subst hw))
         refine bodyPost_ret (by simp [results, Try.results26, go_sem] <;> rfl) rfl ⟨_, rfl, World.ownsRow_nil _ _ _ _, hb1⟩)
  | true =>
    have H := hd (M_yes hok)
    have hab : tripsB l = true ∧ movesB ms = true := by simpa [okV] using hok
    rw [hab.1] at A1
    rw [hab.2] at A2
    obtain ⟨n1, n2⟩ := trips_len hab.1
    have TB := hd (fun w' (h : Below w.heap.size w w') => l06Table_any _ _ l ms w' (S1.out.below h) (S2.out.below h) hab.1 hab.2)
    have MQ := hd (fun v' w' hs => l06Match_any (fitV l ms) l.length l.length n1 n2 n1 n2 v' (partF l ms (l.length * l.length)) w' hs (fun i k hi hk => by
      have hlt := at_lt hi hk
      simp [partF, hlt, fitV]))
    have hmul : l.length * l.length ≤ 24 * 24 := Nat.mul_le_mul n2 n2
    have VS := hd (veh_start (ms := ms) hab.1 hab.2)
    have PF := hd (po_facts (l := l) (ms := ms))
    have BF := hd (fun x hx => behV_first (po := poV l ms) (n := l.length) PF.out.2.1 (fun k hk => by have := PF.out.2.2.2 k hk; omega) l.length (Nat.le_refl _) x hx)
    have NF := hd (nx_facts (ms := ms) hab.1 hab.2)
    have SL := hd (stV_le hab.1)
    have MS := hd (fun x z h => mV_step (l := l) (x := x) (z := z) SL.out h)
    have NE := hd (show ∀ x, nxV l ms x = firstI (poV l ms) x l.length from fun _ => rfl)
    have VL := hd (fun o i => veh_len (poV l ms) (nxV l ms) 10001 o i)
    have VC := hd (fun o i => veh_cnt (poV l ms) (nxV l ms) 10001 o i)
    have VN := hd (fun o i h => veh_no (po := poV l ms) (nx := nxV l ms) (F := 10001) (o := o) (i := i) h)
    have VY := hd (fun o i h => veh_yes (po := poV l ms) (nx := nxV l ms) (F := 10001) (o := o) (i := i) h)
    have PS := hd (fun ct F x o => paint_step (nx := nxV l ms) (ct := ct) (F := F) (x := x) (out := o))
    have PE := hd (fun ct F a o h => paint_end (nx := nxV l ms) (ct := ct) (F := F) (a := a) (out := o) h)
    have BY := hd (fun k r h => behV_yes (po := poV l ms) (n := l.length) (k := k) (r := r) h)
    have BN := hd (fun k h => behV_no (po := poV l ms) (n := l.length) (k := k) h)
    have BL := hd (fun k => behV_len (poV l ms) l.length k)
    have B0 := hd (show behV (poV l ms) l.length 0 = List.replicate l.length (-1) from rfl)
    rw [← VS.out] at H
    rw [H.out]
    simp only
    rw [VL.out, List.length_replicate]
    rw [show matM (fitV l ms) l.length l.length = poV l ms from rfl] at MQ
    have V0 := hd (show vehV (poV l ms) (nxV l ms) 10001 (List.replicate l.length 0) 0 = (List.replicate l.length 0, 0) from rfl)
    clear hok hab S1 S2 H VS
    generalize poV l ms = po at *
    generalize nxV l ms = nx at *
    generalize mV l = m at *
    obtain ⟨sg, hsg⟩ : ∃ sg, sg = stV l := ⟨_, rfl⟩
    rw [← hsg] at SL MS NF
    generalize partF l ms (l.length * l.length) = tb at *
    generalize l.length = n at *
    have HO0 := hd (show (List.replicate n (0 : Int)).map vi = List.replicate n (.int .i64 0) by simp [vi])
    have HOL := hd (List.length_replicate (n := n) (a := (0 : Int)))
    generalize List.replicate n (0 : Int) = o0 at *
    obtain ⟨nn, hnn⟩ : ∃ nn, nn = n * n := ⟨_, rfl⟩
    rw [← hnn] at hmul TB MQ
    clear hsg hnn
    go_enter Try.func26, Try.ntmps26
    go_wp2_with (first
      | (go_at_call 59; refine A1.out.mono ?_; rintro e w1 ⟨rfl, hb1⟩; have HB1 := hd hb1; clear hb1)
      | (go_at_call 60; refine (A2.out _ HB1.out).mono ?_; rintro e w' ⟨rfl, hw⟩; subst hw)
      | (go_at_call 61; refine (TB.out _ HB1.out).mono ?_; rintro e w2 ⟨tv, rfl, ho2, hb2⟩; have HB2 := hd (below_tr hb2 HB1.out); have HT2 := hd (own_sl ho2 (by unfold maxLen; omega)); clear ho2 hb2)
      | (go_at_call 45; refine (MQ.out _ _ HT2.out).mono ?_; rintro e w3 ⟨ofv, rfl, ho3, hb3⟩; have HO3 := hd (own_mono ho3 HB2.out.size); obtain ⟨g1, d1, rfl, hg11, hg12⟩ := own_form ho3 n1; have HB3 := hd (below_tr hb3 HB2.out); clear ho3 hb3))
    clear hg11
    have hst := World.ownsRow_made (size := 1) w3 #[] 0 (Nat.le_refl _) (by unfold maxLen; omega) rfl (e := 2)
    go_loopw [9, 10] (fun cu ix wr => ∃ k : Nat, k ≤ n ∧ ix = .int .i64 k ∧ Hid (wr.ownsRow w3.heap.size 2 1 cu k ((List.replicate k (-1 : Int)).map vi)) ∧ Hid (Below w3.heap.size w3 wr)) (fun _ ix _ => n - (intOf ix).toNat)
    case atStart => exact ⟨0, by omega, rfl, hd (by simpa using hst), hd ((Below.refl _ _).alloc (Nat.le_refl _) _)⟩
    case round =>
      clear hst
      obtain ⟨k, hk, rfl, Ho4, Hb4⟩ := hrel
      by_cases hkn : k < n
      · have j1 : (k : Int) < (n : Int) := by omega
        go_wp2_with (at_builtin; go_must (refine wpList_app_int _ _ _ rfl _ _ rfl w3.heap.size k _ _ rfl Ho4.out rfl _ rfl rfl (by omega) Hb4.out.size ?_); intro v' w4 ho4 hg4 hap)
        go_roundw
        case rel => exact ⟨k + 1, by omega, by go_num, hd (by rw [← repM_succ]; exact ho4), hd (below_row hg4 Hb4.out (own_row Ho4.out (Nat.le_refl _)))⟩
        case measure => simp [intOf]; omega
      · have e : n = k := by omega
        subst e
        obtain ⟨g3, d3, rfl, hg31, hg32⟩ := own_form Ho4.out n1
        have hne3 : g1 ≠ g3 := by omega
        have HP := hd (And.intro (own_below HO3.out Hb4.out) (own_mono Ho4.out HB3.out.size))
        have HB4 := hd (below_tr Hb4.out HB3.out)
        clear Ho4 Hb4 hk hkn
        go_wp2
        go_loopw [11] (fun ix wr => ∃ k : Nat, k ≤ n ∧ ix = .int .i64 k ∧ Hid (wr.ownsRow w.heap.size 2 1 (.slice (some ⟨g1, 0, none⟩) n d1) n (po.map vi) ∧ wr.ownsRow w.heap.size 2 1 (.slice (some ⟨g3, 0, none⟩) n d3) n ((behV po n k).map vi)) ∧ Hid (Below w.heap.size w wr)) (fun ix _ => n - (intOf ix).toNat)
        case atStart => exact ⟨0, by omega, rfl, hd (by rw [B0.out]; exact HP.out), HB4⟩
        case round =>
          clear HP HB4 HO3 HB3 HB2 HB1 HT2
          obtain ⟨k, hk, rfl, HP, HB⟩ := hrel
          by_cases hlt : k < n
          · have cq := own_int HP.out.1 hlt
            have hq := PF.out.2.2.2 k hlt
            have Y := hd (fun r h => BY.out k r h)
            have N := hd (fun h => BN.out k h)
            generalize hv : po.getD k 0 = q at *
            clear hv
            have ho3 := HP.out.2
            have HG3 := hd (World.ownsRow.lt HP.out.2 g3 rfl)
            have j0 : (k : Int) < (n : Int) := by omega
            by_cases h0 : 0 ≤ q
            · obtain ⟨r, rfl⟩ : ∃ r : Nat, q = r := ⟨q.toNat, by omega⟩
              have E := hd (Y.out r rfl)
              have j1 : (r : Int) < (n : Int) := by omega
              clear Y N hq
              go_wp2_with ((with_reducible refine wpList_store_own _ w.heap.size 2 1 n d3 g3 _ ho3 size_int r (vi (k : Int)) ?_ ?_ ?_ ?_ ?_); exact rfl; exact rfl; exact rfl; omega; intro w6 ho6 hg6)
              go_roundw
              case rel =>
                refine ⟨k + 1, by omega, by go_num, hd ⟨own_kept (u := .slice (some ⟨g3, 0, none⟩) n d3) HP.out.1 hg6 (dj_ne hne3), ?_⟩, hd (belowB HB.out hg6 HG3.out.1 (Nat.le_refl _))⟩
                rw [E.out, List.map_set]; exact ho6
              case measure => simp [intOf]; omega
            · have E := hd (N.out (by omega))
              clear Y N hq
              go_wp2
              go_roundw
              case rel => exact ⟨k + 1, by omega, by go_num, hd ⟨HP.out.1, by rw [E.out]; exact HP.out.2⟩, HB⟩
              case measure => simp [intOf]; omega
          · have e : k = n := by omega
            subst e
            clear hlt
            go_wp2_with (at_make; go_must (refine wpList_make_int _ rfl _ rfl _ _ k rfl rfl (by omega) ?_); intro w5 ho5 hb5; have HP5 := hd (show (w5.ownsRow w.heap.size 2 1 (.slice (some ⟨g1, 0, none⟩) k d1) k (po.map vi) ∧ w5.ownsRow w.heap.size 2 1 (.slice (some ⟨g3, 0, none⟩) k d3) k ((behV po k k).map vi)) ∧ w5.ownsRow w.heap.size 2 1 (.slice (some ⟨wr.heap.size, 0, none⟩) k k) k (List.replicate k (.int .i64 0)) from ⟨⟨own_below HP.out.1 hb5, own_below HP.out.2 hb5⟩, own_mono ho5 HB.out.size⟩); have HB5 := hd (below_tr hb5 HB.out); clear ho5 hb5)
            have HG1 := hd (World.ownsRow.lt HP.out.1 g1 rfl).2
            have HG3 := hd (World.ownsRow.lt HP.out.2 g3 rfl).2
            have hne1 : g1 ≠ wr.heap.size := by have := HG1.out; omega
            have hne2 : g3 ≠ wr.heap.size := by have := HG3.out; omega
            generalize wr.heap.size = g2 at *
            clear HP HB
            have HBF := hd (fun x (hx : x < k) => BF.out x hx)
            go_loopw [13, 14] (fun ct ix wr => ∃ i : Nat, i ≤ k ∧ ix = .int .i64 i ∧ ct = .int .i64 ((vehV po nx 10001 o0 i).2 : Nat) ∧ Hid ((wr.ownsRow w.heap.size 2 1 (.slice (some ⟨g1, 0, none⟩) k d1) k (po.map vi) ∧ wr.ownsRow w.heap.size 2 1 (.slice (some ⟨g3, 0, none⟩) k d3) k ((behV po k k).map vi)) ∧ wr.ownsRow w.heap.size 2 1 (.slice (some ⟨g2, 0, none⟩) k k) k ((vehV po nx 10001 o0 i).1.map vi)) ∧ Hid (Below w.heap.size w wr)) (fun _ ix _ => k - (intOf ix).toNat)
            case atStart => exact ⟨0, by omega, rfl, by rw [V0.out]; rfl, hd (by rw [V0.out]; simp only; rw [HO0.out]; exact HP5.out), HB5⟩
            case round =>
              clear HP5 HB5
              obtain ⟨i, hi, rfl, rfl, HP, HB⟩ := hrel
              by_cases hlt : i < k
              · have cq := own_int HP.out.1.1 hlt
                have hq := PF.out.2.2.2 i hlt
                have hle := VC.out o0 i
                have Y := hd (fun h => VY.out o0 i h)
                have N := hd (fun h => VN.out o0 i h)
                have HVL := hd (VL.out o0 i)
                generalize hv : po.getD i 0 = q at *
                clear hv
                obtain ⟨st, hst⟩ : ∃ st, st = vehV po nx 10001 o0 i := ⟨_, rfl⟩
                rw [← hst] at hle Y N HVL HP
                rw [← hst]
                clear hst
                obtain ⟨out0, ct⟩ := st
                simp only at hle Y N HVL HP
                simp only
                have j0 : (i : Int) < (k : Int) := by omega
                by_cases h0 : 0 ≤ q
                · have E := hd (N.out h0)
                  clear Y N hq
                  go_wp2
                  go_roundw
                  case rel => exact ⟨i + 1, by omega, by go_num, by rw [E.out], hd (by rw [E.out]; exact HP.out), HB⟩
                  case measure => simp [intOf]; omega
                · have E := hd (Y.out (by omega))
                  have wc : IntKind.i64.wrap ((ct : Int) + 1) = ((ct + 1 : Nat) : Int) := by rw [IntWalk.i64_in _ (by omega)]; push_cast; rfl
                  have HG2 := hd (World.ownsRow.lt HP.out.2 g2 rfl)
                  clear Y N hq
                  go_wp2
                  clear cq
                  go_loopw [15] (fun at' wq => ∃ (a : Int) (F : Nat) (out : List Int), at' = .int .i64 a ∧ (a = -1 ∨ ∃ x : Nat, a = x ∧ x < k ∧ 10001 - sg x ≤ F) ∧ Hid (paintV nx ct F a out = paintV nx ct 10001 i out0) ∧ Hid (out.length = k) ∧ Hid ((wq.ownsRow w.heap.size 2 1 (.slice (some ⟨g1, 0, none⟩) k d1) k (po.map vi) ∧ wq.ownsRow w.heap.size 2 1 (.slice (some ⟨g3, 0, none⟩) k d3) k ((behV po k k).map vi)) ∧ wq.ownsRow w.heap.size 2 1 (.slice (some ⟨g2, 0, none⟩) k k) k (out.map vi)) ∧ Hid (Below w.heap.size w wq)) (fun at' _ => m (intOf at'))
                  case atStart => exact ⟨i, 10001, out0, rfl, .inr ⟨i, rfl, hlt, by omega⟩, hd rfl, hd (by rw [HVL.out, HOL.out]), HP, HB⟩
                  case round =>
                    clear HP HB
                    obtain ⟨a, F, out, rfl, ha, HE, HL, HP, HB⟩ := hrel
                    rcases ha with rfl | ⟨x, rfl, hx, hF⟩
                    · have E2 := hd (show paintV nx ct 10001 i out0 = out by rw [← HE.out]; exact PE.out _ _ _ _ (by omega))
                      go_wp2
                      go_roundw
                      case rel =>
                        refine ⟨i + 1, by omega, by go_num, by rw [E.out]; exact congrArg _ (by push_cast; rfl), hd ?_, HB⟩
                        rw [E.out]
                        simp only
                        rw [E2.out]
                        exact HP.out
                      case measure => simp [intOf]; omega
                    · have hsx := SL.out x
                      obtain ⟨F', rfl⟩ : ∃ F', F = F' + 1 := ⟨F - 1, by omega⟩
                      have E2 := hd (HE.out)
                      have E3 := hd (PS.out ct F' x out)
                      have NX := NF.out x hx
                      have MX := hd (MS.out x (nx x) NX)
                      have NXE := hd (show (behV po k k).getD x 0 = nx x by rw [HBF.out x hx, NE.out])
                      have ho2 := HP.out.2
                      have j1 : (0 : Int) ≤ (x : Int) := by omega
                      have j2 : (x : Int) < (k : Int) := by omega
                      clear HE
                      go_wp2_with ((with_reducible refine wpList_store_own _ w.heap.size 2 1 k k g2 _ ho2 size_int x (vi (ct : Int)) ?_ ?_ ?_ ?_ ?_); exact rfl; exact rfl; exact rfl; omega; intro w6 ho6 hg6; have HP6 := hd (And.intro (And.intro (own_kept (u := .slice (some ⟨g2, 0, none⟩) k k) HP.out.1.1 hg6 (dj_ne hne1)) (own_kept (u := .slice (some ⟨g2, 0, none⟩) k k) HP.out.1.2 hg6 (dj_ne hne2))) ho6); have HB6 := hd (belowB HB.out hg6 HG2.out.1 (Nat.le_refl _)); have cn := own_int HP6.out.1.2 hx; rw [NXE.out] at cn; clear ho6 hg6)
                      go_roundw
                      case rel =>
                        refine ⟨nx x, F', out.set x ct, rfl, ?_, hd (by rw [← E2.out, E3.out]), hd (by rw [List.length_set]; exact HL.out), hd ⟨HP6.out.1, ?_⟩, HB6⟩
                        · rcases NX with h | ⟨k', h1, h2, h3⟩
                          · exact .inl h
                          · exact .inr ⟨k', h1, h2, by omega⟩
                        · rw [List.map_set]; exact HP6.out.2
                      case measure => exact MX.out
              · have e : i = k := by omega
                subst e
                go_wp2
                refine bodyPost_ret (by simp [results, Try.results26, go_sem] <;> rfl) rfl ⟨_, rfl, HP.out.2, HB.out⟩

set_option maxHeartbeats 2000000 in
set_option maxRecDepth 100000 in
theorem walk (w : World) (v0 : Value) (x0 : List Q4) (i0 : ∀ x ∈ x0, x.I64) (s0 : Sl w 4 v0 x0.length (q4s x0)) (v1 : Value) (x1 : List Int) (i1 : ∀ x ∈ x1, I64 x) (s1 : Sl w 1 v1 x1.length (x1.map vi)) :
    Calls Try.prog 6 #[v0, v1] w fun e w' => e = .returned (.bool true) ∧ Below w.heap.size w w' := by
  obtain ⟨A0, cap0, hw0, _, hr0⟩ := id s0
  have hv0 := hd hw0; clear hw0
  obtain ⟨A1, cap1, hw1, _, hr1⟩ := id s1
  have hv1 := hd hw1; clear hw1
  have hm0 := hr0.2.1
  have hm1 := hr1.2.1
  by_cases b1 : x1.length ≤ 1048576
  rotate_left
  · have e1 := hv1.out; subst e1
    unfold maxLen at hm1
    have hx' : ¬ ((x1.length : Int) ≤ 1048576) := by omega
    go_enter Try.func6, Try.ntmps6
    go_wp2
    go_ret
    exact ⟨rfl, Below.refl _ _⟩
  have hz0 := hd (szTripS_any v0 x0.length (1048576) w ⟨A0, cap0, hv0.out, hm0⟩ (by omega) (by omega))
  by_cases c0 : (1048576 : Int) < x0.length
  · rw [if_pos c0] at hz0
    have e1 := hv1.out; subst e1
    have hx1 : (x1.length : Int) ≤ 1048576 := by omega
    go_enter Try.func6, Try.ntmps6
    go_wp2_with fail
    refine hz0.out.mono ?_; rintro e w' ⟨rfl, rfl⟩
    go_wp2
    go_ret
    exact ⟨rfl, Below.refl _ _⟩
  rw [if_neg c0] at hz0
  have l0 : (0 : Int) ≤ 1048576 - x0.length := by omega
  have b0 : x0.length ≤ 1048576 := by omega
  have hx1 : (x1.length : Int) ≤ 1048576 := by omega
  have z0 := size_le b0
  have z1 := size_le b1
  have bg := len_ok x0 i0 b0 x1 i1 b1
  have zg := size_le bg
  have hB := Below.refl w.heap.size w
  clear hr0 hm0
  clear hr1 hm1
  clear hv0
  have e1 := hv1.out; subst e1; clear hv1
  go_enter Try.func6, Try.ntmps6
  go_wp2_with fail
  refine hz0.out.mono ?_; rintro e w' ⟨rfl, rfl⟩
  clear hz0
  go_wp2_with fail
  refine (toTripS_any _ x0 _ (s0.below hB) b0).mono ?_; rintro e w1 ⟨s0_, rfl, ho_s0_, hb⟩
  replace ho_s0_ := own_mono ho_s0_ hB.size
  replace hB := below_tr hb hB
  clear hb
  go_wp2_with fail
  refine (toInt64S_any _ x1 _ (s1.below hB) b1).mono ?_; rintro e w2 ⟨s1_, rfl, ho_s1_, hb⟩
  have d_s0__s1_ := dj_new ho_s0_ ho_s1_
  replace ho_s0_ := own_below ho_s0_ hb
  replace ho_s1_ := own_mono ho_s1_ hB.size
  replace hB := below_tr hb hB
  clear hb
  go_wp2_with fail
  refine (spec_any _ _ x0 i0 b0 (own_sl ho_s0_ z0) _ x1 i1 b1 (own_sl ho_s1_ z1)).mono ?_; rintro e w3 ⟨w0, rfl, ho_w0, hb⟩
  have d_s0__w0 := dj_new ho_s0_ ho_w0
  have d_s1__w0 := dj_new ho_s1_ ho_w0
  replace ho_s0_ := own_below ho_s0_ hb
  replace ho_s1_ := own_below ho_s1_ hb
  replace ho_w0 := own_mono ho_w0 hB.size
  replace hB := below_tr hb hB
  clear hb
  clear ho_s0_ d_s0__s1_ d_s0__w0
  clear ho_s1_ d_s1__w0
  go_wp2_with fail
  refine (toTripS_any _ x0 _ (s0.below hB) b0).mono ?_; rintro e w4 ⟨x0_, rfl, ho_x0_, hb⟩
  have d_w0_x0_ := dj_new ho_w0 ho_x0_
  replace ho_w0 := own_below ho_w0 hb
  replace ho_x0_ := own_mono ho_x0_ hB.size
  replace hB := below_tr hb hB
  clear hb
  go_wp2_with fail
  refine (toInt64S_any _ x1 _ (s1.below hB) b1).mono ?_; rintro e w5 ⟨x1_, rfl, ho_x1_, hb⟩
  have d_w0_x1_ := dj_new ho_w0 ho_x1_
  have d_x0__x1_ := dj_new ho_x0_ ho_x1_
  replace ho_w0 := own_below ho_w0 hb
  replace ho_x0_ := own_below ho_x0_ hb
  replace ho_x1_ := own_mono ho_x1_ hB.size
  replace hB := below_tr hb hB
  clear hb
  go_wp2_with fail
  refine (impl_any _ _ x0 i0 b0 (own_sl ho_x0_ z0) _ x1 i1 b1 (own_sl ho_x1_ z1)).mono ?_; rintro e w6 ⟨g0, rfl, ho_g0, hb⟩
  have d_w0_g0 := dj_new ho_w0 ho_g0
  have d_x0__g0 := dj_new ho_x0_ ho_g0
  have d_x1__g0 := dj_new ho_x1_ ho_g0
  replace ho_w0 := own_below ho_w0 hb
  replace ho_x0_ := own_below ho_x0_ hb
  replace ho_x1_ := own_below ho_x1_ hb
  replace ho_g0 := own_mono ho_g0 hB.size
  replace hB := below_tr hb hB
  clear hb
  go_wp2_with fail
  refine (eqInt64S_b _ _ _ _ _ (own_sl ho_g0 zg) (own_sl ho_w0 zg)).mono ?_; rintro e w7 ⟨rfl, hb⟩
  replace ho_w0 := own_below ho_w0 hb
  replace ho_x0_ := own_below ho_x0_ hb
  replace ho_x1_ := own_below ho_x1_ hb
  replace ho_g0 := own_below ho_g0 hb
  replace hB := below_tr hb hB
  clear hb
  go_wp2_with fail
  refine (toTripS_any _ x0 _ (s0.below hB) b0).mono ?_; rintro e w8 ⟨c0_, rfl, ho_c0_, hb⟩
  have d_w0_c0_ := dj_new ho_w0 ho_c0_
  have d_x0__c0_ := dj_new ho_x0_ ho_c0_
  have d_x1__c0_ := dj_new ho_x1_ ho_c0_
  have d_g0_c0_ := dj_new ho_g0 ho_c0_
  replace ho_w0 := own_below ho_w0 hb
  replace ho_x0_ := own_below ho_x0_ hb
  replace ho_x1_ := own_below ho_x1_ hb
  replace ho_g0 := own_below ho_g0 hb
  replace ho_c0_ := own_mono ho_c0_ hB.size
  replace hB := below_tr hb hB
  clear hb
  go_wp2_with fail
  refine (eqTripS_any _ _ x0 x0 _ (own_sl ho_x0_ z0) (own_sl ho_c0_ z0)).mono ?_; rintro e w9 ⟨rfl, hb⟩
  replace ho_w0 := own_below ho_w0 hb
  replace ho_x0_ := own_below ho_x0_ hb
  replace ho_x1_ := own_below ho_x1_ hb
  replace ho_g0 := own_below ho_g0 hb
  replace ho_c0_ := own_below ho_c0_ hb
  replace hB := below_tr hb hB
  clear hb
  clear ho_c0_ d_w0_c0_ d_x0__c0_ d_x1__c0_ d_g0_c0_
  go_wp2_with fail
  refine (toInt64S_any _ x1 _ (s1.below hB) b1).mono ?_; rintro e w10 ⟨c1_, rfl, ho_c1_, hb⟩
  have d_w0_c1_ := dj_new ho_w0 ho_c1_
  have d_x0__c1_ := dj_new ho_x0_ ho_c1_
  have d_x1__c1_ := dj_new ho_x1_ ho_c1_
  have d_g0_c1_ := dj_new ho_g0 ho_c1_
  replace ho_w0 := own_below ho_w0 hb
  replace ho_x0_ := own_below ho_x0_ hb
  replace ho_x1_ := own_below ho_x1_ hb
  replace ho_g0 := own_below ho_g0 hb
  replace ho_c1_ := own_mono ho_c1_ hB.size
  replace hB := below_tr hb hB
  clear hb
  go_wp2_with fail
  refine (eqInt64S_b _ _ x1 x1 _ (own_sl ho_x1_ z1) (own_sl ho_c1_ z1)).mono ?_; rintro e w11 ⟨rfl, hb⟩
  replace ho_w0 := own_below ho_w0 hb
  replace ho_x0_ := own_below ho_x0_ hb
  replace ho_x1_ := own_below ho_x1_ hb
  replace ho_g0 := own_below ho_g0 hb
  replace ho_c1_ := own_below ho_c1_ hb
  replace hB := below_tr hb hB
  clear hb
  clear ho_c1_ d_w0_c1_ d_x0__c1_ d_x1__c1_ d_g0_c1_
  go_wp2_with fail
  have hrow := own_row ho_x0_ (Nat.le_refl _)
  refine (markTripS_any _ _ _ _ (1) _ ho_x0_ b0 (by omega) (by omega)).mono ?_; rintro e w12 ⟨rfl, ho', hg⟩
  replace ho_w0 := own_kept ho_w0 hg d_w0_x0_
  replace ho_x1_ := own_kept ho_x1_ hg (dj_symm d_x0__x1_)
  replace ho_g0 := own_kept ho_g0 hg (dj_symm d_x0__g0)
  replace ho_x0_ := ho'
  replace hB := below_row hg hB hrow
  clear hg hrow ho'
  go_wp2_with fail
  have hrow := own_row ho_x1_ (Nat.le_refl _)
  refine (markInt64S_any _ _ _ _ (1 + (x0.length : Int) * 4) _ ho_x1_ b1 (by omega) (by omega)).mono ?_; rintro e w13 ⟨rfl, ho', hg⟩
  replace ho_w0 := own_kept ho_w0 hg d_w0_x1_
  replace ho_x0_ := own_kept ho_x0_ hg d_x0__x1_
  replace ho_g0 := own_kept ho_g0 hg (dj_symm d_x1__g0)
  replace ho_x1_ := ho'
  replace hB := below_row hg hB hrow
  clear hg hrow ho'
  clear ho_x0_ d_w0_x0_ d_x0__x1_ d_x0__g0
  clear ho_x1_ d_w0_x1_ d_x1__g0
  go_wp2_with fail
  refine (eqInt64S_b _ _ _ _ _ (own_sl ho_g0 zg) (own_sl ho_w0 zg)).mono ?_; rintro e w14 ⟨rfl, hb⟩
  replace ho_w0 := own_below ho_w0 hb
  replace ho_g0 := own_below ho_g0 hb
  replace hB := below_tr hb hB
  clear hb
  go_wp2_with fail
  have hrow := own_row ho_g0 (Nat.le_refl _)
  refine (markInt64S_any _ _ _ _ 1 _ ho_g0 bg (by omega) (by omega)).mono ?_; rintro e w15 ⟨rfl, ho', hg⟩
  replace ho_w0 := own_kept ho_w0 hg d_w0_g0
  replace ho_g0 := ho'
  replace hB := below_row hg hB hrow
  clear hg hrow ho'
  go_wp2_with fail
  refine (heldInt64S_b _ _ 1 _ (own_sl ho_g0 zg) bg (by omega) (by omega)).mono ?_; rintro e w16 ⟨rfl, hb⟩
  replace ho_w0 := own_below ho_w0 hb
  replace ho_g0 := own_below ho_g0 hb
  replace hB := below_tr hb hB
  clear hb
  go_wp2_with fail
  refine (toTripS_any _ x0 _ (s0.below hB) b0).mono ?_; rintro e w17 ⟨t0_, rfl, ho_t0_, hb⟩
  have d_w0_t0_ := dj_new ho_w0 ho_t0_
  have d_g0_t0_ := dj_new ho_g0 ho_t0_
  replace ho_w0 := own_below ho_w0 hb
  replace ho_g0 := own_below ho_g0 hb
  replace ho_t0_ := own_mono ho_t0_ hB.size
  replace hB := below_tr hb hB
  clear hb
  go_wp2_with fail
  refine (toInt64S_any _ x1 _ (s1.below hB) b1).mono ?_; rintro e w18 ⟨t1_, rfl, ho_t1_, hb⟩
  have d_w0_t1_ := dj_new ho_w0 ho_t1_
  have d_g0_t1_ := dj_new ho_g0 ho_t1_
  have d_t0__t1_ := dj_new ho_t0_ ho_t1_
  replace ho_w0 := own_below ho_w0 hb
  replace ho_g0 := own_below ho_g0 hb
  replace ho_t0_ := own_below ho_t0_ hb
  replace ho_t1_ := own_mono ho_t1_ hB.size
  replace hB := below_tr hb hB
  clear hb
  go_wp2_with fail
  refine (impl_any _ _ x0 i0 b0 (own_sl ho_t0_ z0) _ x1 i1 b1 (own_sl ho_t1_ z1)).mono ?_; rintro e w19 ⟨h0, rfl, ho_h0, hb⟩
  have d_w0_h0 := dj_new ho_w0 ho_h0
  have d_g0_h0 := dj_new ho_g0 ho_h0
  have d_t0__h0 := dj_new ho_t0_ ho_h0
  have d_t1__h0 := dj_new ho_t1_ ho_h0
  replace ho_w0 := own_below ho_w0 hb
  replace ho_g0 := own_below ho_g0 hb
  replace ho_t0_ := own_below ho_t0_ hb
  replace ho_t1_ := own_below ho_t1_ hb
  replace ho_h0 := own_mono ho_h0 hB.size
  replace hB := below_tr hb hB
  clear hb
  go_wp2_with fail
  refine (eqInt64S_b _ _ _ _ _ (own_sl ho_h0 zg) (own_sl ho_w0 zg)).mono ?_; rintro e w20 ⟨rfl, hb⟩
  replace ho_w0 := own_below ho_w0 hb
  replace ho_g0 := own_below ho_g0 hb
  replace ho_t0_ := own_below ho_t0_ hb
  replace ho_t1_ := own_below ho_t1_ hb
  replace ho_h0 := own_below ho_h0 hb
  replace hB := below_tr hb hB
  clear hb
  go_wp2_with fail
  refine (heldInt64S_b _ _ 1 _ (own_sl ho_g0 zg) bg (by omega) (by omega)).mono ?_; rintro e w21 ⟨rfl, hb⟩
  replace ho_w0 := own_below ho_w0 hb
  replace ho_g0 := own_below ho_g0 hb
  replace ho_t0_ := own_below ho_t0_ hb
  replace ho_t1_ := own_below ho_t1_ hb
  replace ho_h0 := own_below ho_h0 hb
  replace hB := below_tr hb hB
  clear hb
  go_wp2_with fail
  go_ret
  exact ⟨rfl, hB⟩

theorem own : ownKnob Try.prog.godebug = none := by kernel_rfl
theorem laidOut : laidOutB Try.prog = true := by kernel_rfl

set_option maxRecDepth 100000 in
theorem lifted (os : Os) (started : os.Started) (H : Type) (enc : TypeId × Value → H) :
    ReturnsInHanded {} Try.checked os 6 .any (Rows.fnExactFewestVehiclesSpec.pre6 enc Try.prog Try.f6 Rows.fnExactFewestVehiclesRow.domain false) (Rows.fnExactFewestVehiclesSpec.post enc Try.prog Try.f6 false true false false) := by
  refine returnsInHanded_of_change (C := Try.checked) own started (by as_aux_lemma => kernel_rfl) Try.func6
    (ChangeSpec.witness6 (enc := enc) (C := Try.checked) false ⟨#[], #[.slice none 0 0, .slice none 0 0], []⟩ 8 (by as_aux_lemma => kernel_rfl) (by as_aux_lemma => kernel_rfl) (by as_aux_lemma => kernel_rfl) (by as_aux_lemma => kernel_rfl)) ?_
  intro W base args ds gs before hval0 hW hcnd _
  have hval : ∀ (j : Nat) t v, Try.f6.params[j]? = some t → args[j]? = some v → Value.okWide Try.prog W .any base t v := hval0
  have hW' := hW
  obtain ⟨p, q, hA0, hV, rfl, hfz, hnd⟩ := hW
  have hA : DataW.TrodAll enc Try.prog W 0 (fun _ => true) true Try.f6.params.toList args.toList ds p := hA0
  rw [Try.params6] at hA hval
  obtain ⟨v0, vs0, d0, ds0, p0, q0, hargs, rfl, rfl, h0, r0⟩ := trodAll_cons hA
  obtain ⟨v1, vs1, d1, ds1, p1, q1, rfl, rfl, rfl, h1, r1⟩ := trodAll_cons r0
  obtain ⟨rfl, rfl, rfl⟩ := trodAll_nil r1
  obtain rfl : args = #[v0, v1] := by cases args; simp_all
  obtain ⟨rfl, rfl⟩ := trodVars_none hV
  have k0 := h0
  have lt0 : ∀ x ∈ p0, x.block < W.heap.size := by obtain ⟨m, hm⟩ := k0; exact DataW.trod_lt m _ _ _ hm
  obtain ⟨s0, len0, cap0, rfl⟩ := okWide_slice Try.underlying46 (hval 0 46 v0 rfl rfl)
  obtain ⟨x0, _, i0, w0⟩ := arg_q4 Try.underlying46 Try.underlying95 Try.underlying2 rfl (by as_aux_lemma => kernel_rfl) (by as_aux_lemma => kernel_rfl) h0
  have k1 := h1
  have lt1 : ∀ x ∈ p1, x.block < W.heap.size := by obtain ⟨m, hm⟩ := k1; exact DataW.trod_lt m _ _ _ hm
  obtain ⟨s1, len1, cap1, rfl⟩ := okWide_slice Try.underlying30 (hval 1 30 v1 rfl rfl)
  obtain ⟨x1, _, i1, w1⟩ := arg_ints Try.underlying30 Try.underlying2 (by as_aux_lemma => kernel_rfl) h1
  clear hA0 hval0
  refine (walk W _ x0 i0 w0 _ x1 i1 w1).mono fun e W' ⟨he, bel⟩ => ?_
  subst he
  exact ⟨_, rfl, _, _, _, [], _, [], hW', trodAll_mk1 (shut_bool Try.underlying4 _), (trodAll_cons_mk (Below.trod laidOut (by as_aux_lemma => kernel_rfl) (of_decide_eq_true (by as_aux_lemma => kernel_rfl)) k0 bel lt0) (trodAll_cons_mk (Below.trod laidOut (by as_aux_lemma => kernel_rfl) (of_decide_eq_true (by as_aux_lemma => kernel_rfl)) k1 bel lt1) (trodAll_mk0))), rfl, bel.frame _, fun h => by cases h⟩

/-- The given statement. -/
theorem proved : Rows.FnExactFewestVehiclesSaid :=
  OpenClaim.holds_of_wide 6 Try.f6 rfl rfl rfl rfl rfl rfl rfl ⟨rfl, rfl, rfl, rfl, rfl⟩ rfl rfl rfl rfl rfl (by kernel_rfl) Try.func6 (by kernel_rfl)
    (of_decide_eq_true (by kernel_rfl)) (by unfold Func.isWrapper; first | (rw [if_pos (by decide +kernel)]; kernel_rfl) | (rw [if_neg (by decide +kernel)]; exact ⟨rfl, rfl⟩))
    (fun os started H enc _ => lifted os started H enc)
#print axioms proved

end Go.Proofs.Ythgijjdkhffhcaa.lFnExactFewestVehicles
