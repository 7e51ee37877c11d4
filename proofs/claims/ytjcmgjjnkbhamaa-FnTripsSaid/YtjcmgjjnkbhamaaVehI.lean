/- FewestVehicles of the program: a contract (cut from the law's text). -/
import Derived.Test.YtjcmgjjnkbhamaaProg
import Derived.Test.YtjcmgjjnkbhamaaSlice
import Derived.Test.YtjcmgjjnkbhamaaQSlice
import Derived.Test.YtjcmgjjnkbhamaaVeh
namespace Go.Proofs.Ytjcmgjjnkbhamaa.VehI
open Go.RowKit Go.Proofs.Ytjcmgjjnkbhamaa Plain
set_option linter.unusedVariables false
set_option linter.unusedSimpArgs false
attribute [local go_sem ↓] Go.wp_at_zero Go.wp_at_succ

def okV (l : List Q4) (ms : List Int) : Bool := tripsB l && movesB ms
def M (l : List Q4) (ms : List Int) : List Int × Int × Bool := if okV l ms then ((vehV (poV l ms) (nxV l ms) 10001 (List.replicate l.length (-1)) l.length).1, ((vehV (poV l ms) (nxV l ms) 10001 (List.replicate l.length (-1)) l.length).2 : Int), true) else ([], 0, false)
theorem M_no {l : List Q4} {ms : List Int} (h : okV l ms = false) : M l ms = ([], 0, false) := by rw [M, h]; rfl
theorem M_yes {l : List Q4} {ms : List Int} (h : okV l ms = true) : M l ms = ((vehV (poV l ms) (nxV l ms) 10001 (List.replicate l.length (-1)) l.length).1, ((vehV (poV l ms) (nxV l ms) 10001 (List.replicate l.length (-1)) l.length).2 : Int), true) := by rw [M, h]; rfl
theorem len_ok (l : List Q4) (_i : ∀ q ∈ l, q.I64) (_b : l.length ≤ 1048576) (ms : List Int) (_j : ∀ x ∈ ms, I64 x) (_c : ms.length ≤ 1048576) : (M l ms).1.length ≤ 1048576 := by
  cases h : okV l ms with
  | false => rw [M_no h]; simp
  | true => rw [M_yes h, veh_len]; simpa using _b
def mV (l : List Q4) (z : Int) : Nat := if z < 0 then 0 else 10001 - stV l z.toNat
theorem mV_step {l : List Q4} {x : Nat} {z : Int} (hs : ∀ x, stV l x ≤ 10000) (h : z = -1 ∨ ∃ k : Nat, z = k ∧ k < l.length ∧ stV l x < stV l k) : mV l z < mV l (x : Int) := by
  have := hs x
  unfold mV
  rw [if_neg (show ¬ (x : Int) < 0 by omega), Int.toNat_natCast]
  rcases h with rfl | ⟨k, rfl, _, hk⟩
  · rw [if_pos (by omega)]; omega
  · have := hs k
    rw [if_neg (by omega), Int.toNat_natCast]; omega
theorem veh_no {po : List Int} {nx : Nat → Int} {F : Nat} {o : List Int} {i : Nat} (h : 0 ≤ po.getD i 0) : vehV po nx F o (i + 1) = vehV po nx F o i := by rw [vehV, if_pos h]
theorem veh_yes {po : List Int} {nx : Nat → Int} {F : Nat} {o : List Int} {i : Nat} (h : po.getD i 0 < 0) : vehV po nx F o (i + 1) = (paintV nx (vehV po nx F o i).2 F i (vehV po nx F o i).1, (vehV po nx F o i).2 + 1) := by rw [vehV, if_neg (by omega)]
theorem veh_cnt (po : List Int) (nx : Nat → Int) (F : Nat) (o : List Int) (i : Nat) : (vehV po nx F o i).2 ≤ i := by
  induction i with
  | zero => exact Nat.le_refl _
  | succ i ih =>
    rw [vehV]; split
    · omega
    · show (vehV po nx F o i).2 + 1 ≤ _; omega
theorem paint_step {nx : Nat → Int} {ct F x : Nat} {out : List Int} : paintV nx ct (F + 1) (x : Int) out = paintV nx ct F (nx x) (out.set x ct) := by rw [paintV, if_neg (by omega), Int.toNat_natCast]

set_option maxHeartbeats 4000000 in
set_option maxRecDepth 100000 in
theorem impl_any (w : World) (v : Value) (l : List Q4) (_i : ∀ q ∈ l, q.I64) (_b : l.length ≤ 1048576) (s : Sl w 4 v l.length (q4s l)) (u : Value) (ms : List Int) (_j : ∀ x ∈ ms, I64 x) (_c : ms.length ≤ 1048576) (t : Sl w 1 u ms.length (ms.map vi)) :
    Calls Try.prog 8 #[v, u] w (OutL 2 1 (M l ms).1.length ((M l ms).1.map vi) (fun z => .tuple #[z, .int .i64 (M l ms).2.1, .bool (M l ms).2.2]) w) := by
  have A1 := hd (fun w' (h : Below w.heap.size w w') => AreTrips_any v l w' (s.below h))
  have A2 := hd (fun w' (h : Below w.heap.size w w') => AreMoves_any u ms w' (t.below h))
  have S1 := hd s
  have S2 := hd t
  obtain ⟨P1, c1, rfl, hc1, _⟩ := id s
  obtain ⟨P2, c2, rfl, hc2, _⟩ := id t
  clear s t _i _j
  have hbW : Below w.heap.size w ((w.alloc (.cells #[.slice P1 l.length c1] 25)).alloc (.cells #[.slice P2 ms.length c2] 27)) := by go_grown
  have k1 : ((w.alloc (.cells #[.slice P1 l.length c1] 25)).alloc (.cells #[.slice P2 ms.length c2] 27)).cell? ⟨w.heap.size, 0, none⟩ = some (.slice P1 l.length c1) := by simp [go_sem]
  have k2 : ((w.alloc (.cells #[.slice P1 l.length c1] 25)).alloc (.cells #[.slice P2 ms.length c2] 27)).cell? ⟨w.heap.size + 1, 0, none⟩ = some (.slice P2 ms.length c2) := by simp [go_sem]
  have HBW := hd hbW
  have K1 := hd k1
  have K2 := hd k2
  clear k1 k2
  cases hok : okV l ms with
  | false =>
    have H := hd (M_no hok)
    rw [H.out]
    unfold okV at hok
    clear S1 S2
    generalize tripsB l = b1 at *
    generalize movesB ms = b2 at *
    generalize l.length = n1 at *
    generalize ms.length = n2 at *
    cases b1 <;> cases b2
    all_goals first
      | (exfalso; simp at hok; done)
      | (clear hok hbW
         go_enter Try.func8, Try.ntmps8
         go_wp2_with (first
           | (go_at_call 12; refine (A1.out _ HBW.out).mono ?_; rintro e w1 ⟨rfl, hb1⟩; have kk2 := below_at hb1 K2.out)
           | (go_at_call 13; refine (A2.out _ (below_tr hb1 HBW.out)).mono ?_; rintro e w' ⟨rfl, hw⟩; subst hw))
         refine bodyPost_ret (by simp [results, Try.results8, go_sem] <;> rfl) rfl ⟨_, rfl, World.ownsRow_nil _ _ _ _, below_tr hb1 HBW.out⟩)
  | true =>
    have H := hd (M_yes hok)
    have hab : tripsB l = true ∧ movesB ms = true := by simpa [okV] using hok
    rw [hab.1] at A1
    rw [hab.2] at A2
    obtain ⟨n1, n2⟩ := trips_len hab.1
    have MQ := hd (fun w' (hb : Below w.heap.size w w') (c1 : w'.cell? ⟨w.heap.size, 0, none⟩ = _) (c2 : w'.cell? ⟨w.heap.size + 1, 0, none⟩ = _) => match_FewestVehicles (fitV l ms) l.length l.length w.heap.size (w.heap.size + 1) w' n1 n2 n2 (hd (fun w'' h i k hi hk => fv_any l ms w.heap.size (w.heap.size + 1) _ _ w'' (S1.out.below (below_tr h hb)) (S2.out.below (below_tr h hb)) hab.1 hab.2 (below_at h c1) (below_at h c2) i k hi hk)))
    have PF := hd (po_facts (l := l) (ms := ms))
    have NF := hd (nx_facts (ms := ms) hab.1 hab.2)
    have SL := hd (stV_le hab.1)
    have MS := hd (fun x z h => mV_step (l := l) (x := x) (z := z) SL.out h)
    have IX := hd (fun v x w' hs => index_any v (poV l ms) x w' hs (by rw [PF.out.1]; omega))
    rw [PF.out.1] at IX
    have NN := hd (fun w' => none_any l.length n1 (by omega) w')
    have NE := hd (show ∀ x, nxV l ms x = firstI (poV l ms) x l.length from fun _ => rfl)
    have VL := hd (fun o i => veh_len (poV l ms) (nxV l ms) 10001 o i)
    have VC := hd (fun o i => veh_cnt (poV l ms) (nxV l ms) 10001 o i)
    have VN := hd (fun o i h => veh_no (po := poV l ms) (nx := nxV l ms) (F := 10001) (o := o) (i := i) h)
    have VY := hd (fun o i h => veh_yes (po := poV l ms) (nx := nxV l ms) (F := 10001) (o := o) (i := i) h)
    have PS := hd (fun ct F x o => paint_step (nx := nxV l ms) (ct := ct) (F := F) (x := x) (out := o))
    have PE := hd (fun ct F a o h => paint_end (nx := nxV l ms) (ct := ct) (F := F) (a := a) (out := o) h)
    have SM := hd (show ∀ x : Nat, mV l (x : Int) = 10001 - stV l x from fun x => by unfold mV; rw [if_neg (by omega), Int.toNat_natCast])
    rw [H.out]
    simp only
    rw [VL.out, List.length_replicate]
    rw [show matM (fitV l ms) l.length l.length = poV l ms from rfl] at MQ
    have V0 := hd (show vehV (poV l ms) (nxV l ms) 10001 (List.replicate l.length (-1)) 0 = (List.replicate l.length (-1), 0) from rfl)
    clear hok hab S1 S2 H hbW
    generalize poV l ms = po at *
    generalize nxV l ms = nx at *
    generalize mV l = m at *
    obtain ⟨sg, hsg⟩ : ∃ sg, sg = stV l := ⟨_, rfl⟩
    rw [← hsg] at SL MS SM NF
    generalize l.length = n at *
    have HO0 := hd (show (List.replicate n (-1 : Int)).map vi = List.replicate n (.int .i64 (-1)) by simp [vi])
    have HOL := hd (List.length_replicate (n := n) (a := (-1 : Int)))
    generalize List.replicate n (-1 : Int) = o0 at *
    clear hsg
    go_enter Try.func8, Try.ntmps8
    go_wp2_with (first
      | (go_at_call 12; refine (A1.out _ HBW.out).mono ?_; rintro e w1 ⟨rfl, hb1⟩; have kk1 := below_at hb1 K1.out; have kk2 := below_at hb1 K2.out; have HB1 := hd (below_tr hb1 HBW.out); clear hb1)
      | (go_at_call 13; refine (A2.out _ HB1.out).mono ?_; rintro e w' ⟨rfl, hw⟩; subst hw)
      | (go_at_call 17; refine (MQ.out _ HB1.out kk1 kk2).mono ?_; rintro e w2 ⟨ofv, rfl, ho2, hb2⟩; have kk3 := below_at hb2 kk1; have HB2 := hd (below_tr hb2 HB1.out); have HO2 := hd (own_mono ho2 HB1.out.size); obtain ⟨g1, d1, rfl, hg11, hg12⟩ := own_form ho2 n1; clear ho2 hb2)
      | (go_at_call 20; refine (NN.out _).mono ?_; rintro e w3 ⟨outv, rfl, ho3, hb3⟩; obtain ⟨g2, d2, rfl, hg21, hg22⟩ := own_form ho3 n1; have HP := hd (And.intro (own_below HO2.out hb3) (own_mono ho3 HB2.out.size)); have HB3 := hd (below_tr hb3 HB2.out); clear ho3 hb3))
    have hne : g1 ≠ g2 := by omega
    clear kk1 kk2 kk3 hg11
    go_loopw [9, 32] (fun ct ix wr => ∃ i : Nat, i ≤ n ∧ ix = .int .i64 i ∧ ct = .int .i64 ((vehV po nx 10001 o0 i).2 : Nat) ∧ Hid (wr.ownsRow w.heap.size 2 1 (.slice (some ⟨g1, 0, none⟩) n d1) n (po.map vi) ∧ wr.ownsRow w.heap.size 2 1 (.slice (some ⟨g2, 0, none⟩) n d2) n ((vehV po nx 10001 o0 i).1.map vi)) ∧ Hid (Below w.heap.size w wr)) (fun _ ix _ => n - (intOf ix).toNat)
    case atStart => exact ⟨0, by omega, rfl, by rw [V0.out]; rfl, hd (by rw [V0.out]; simp only; rw [HO0.out]; exact HP.out), HB3⟩
    case round =>
      clear HP HB3 HO2 HB2 HB1
      obtain ⟨i, hi, rfl, rfl, HP, HB⟩ := hrel
      by_cases hlt : i < n
      · have cq := own_int HP.out.1 hlt
        have hq := PF.out.2.2.2 i hlt
        have hle := VC.out o0 i
        have Y := hd (fun h => VY.out o0 i h)
        have N := hd (fun h => VN.out o0 i h)
        have HVL := hd (VL.out o0 i)
        generalize hv : po.getD i 0 = q at *
        clear hv
        obtain ⟨st, hst⟩ : ∃ st, st = vehV po nx 10001 o0 i := ⟨_, rfl⟩
        rw [← hst] at hle Y N HVL HP
        rw [← hst]
        clear hst
        obtain ⟨out0, ct⟩ := st
        simp only at hle Y N HVL HP
        simp only
        have j0 : (i : Int) < (n : Int) := by omega
        by_cases h0 : 0 ≤ q
        · have E := hd (N.out h0)
          clear Y N hq
          go_wp2
          go_roundw
          case rel => exact ⟨i + 1, by omega, by go_num, by rw [E.out], hd (by rw [E.out]; exact HP.out), HB⟩
          case measure => simp [intOf]; omega
        · have E := hd (Y.out (by omega))
          have wc : IntKind.i64.wrap ((ct : Int) + 1) = ((ct + 1 : Nat) : Int) := by rw [IntWalk.i64_in _ (by omega)]; push_cast; rfl
          have HG2 := hd (World.ownsRow.lt HP.out.2 g2 rfl)
          have SMi := hd (SL.out i)
          clear Y N hq
          go_wp2
          clear cq
          go_loopw [12] (fun at' wq => ∃ (a : Int) (F : Nat) (out : List Int), at' = .int .i64 a ∧ (a = -1 ∨ ∃ x : Nat, a = x ∧ x < n ∧ 10001 - sg x ≤ F) ∧ Hid (paintV nx ct F a out = paintV nx ct 10001 i out0) ∧ Hid (out.length = n) ∧ Hid (wq.ownsRow w.heap.size 2 1 (.slice (some ⟨g1, 0, none⟩) n d1) n (po.map vi) ∧ wq.ownsRow w.heap.size 2 1 (.slice (some ⟨g2, 0, none⟩) n d2) n (out.map vi)) ∧ Hid (Below w.heap.size w wq)) (fun at' _ => m (intOf at'))
          case atStart => exact ⟨i, 10001, out0, rfl, .inr ⟨i, rfl, hlt, by omega⟩, hd rfl, hd (by rw [HVL.out, HOL.out]), HP, HB⟩
          case round =>
            clear HP HB
            obtain ⟨a, F, out, rfl, ha, HE, HL, HP, HB⟩ := hrel
            rcases ha with rfl | ⟨x, rfl, hx, hF⟩
            · have E2 := hd (show paintV nx ct 10001 i out0 = out by rw [← HE.out]; exact PE.out _ _ _ _ (by omega))
              go_wp2
              go_roundw
              case rel =>
                refine ⟨i + 1, by omega, by go_num, by rw [E.out]; exact congrArg _ (by push_cast; rfl), hd ?_, HB⟩
                rw [E.out]
                simp only
                rw [E2.out]
                exact HP.out
              case measure => simp [intOf]; omega
            · have hsx := SL.out x
              obtain ⟨F', rfl⟩ : ∃ F', F = F' + 1 := ⟨F - 1, by omega⟩
              have E2 := hd (HE.out)
              have E3 := hd (PS.out ct F' x out)
              have NX := NF.out x hx
              have MX := hd (MS.out x (nx x) NX)
              have NXE := hd (NE.out x)
              have ho2 := HP.out.2
              have j1 : (0 : Int) ≤ (x : Int) := by omega
              have j2 : (x : Int) < (n : Int) := by omega
              have IX2 := hd (fun w' hs => IX.out (.slice (some ⟨g1, 0, none⟩) n d1) (x : Int) w' hs)
              clear HE
              generalize firstI po x n = y at *
              have NXE2 := NXE.out
              clear NXE
              subst NXE2
              go_wp2_with (first
                | ((with_reducible refine wpList_store_own _ w.heap.size 2 1 n d2 g2 _ ho2 size_int x (vi (ct : Int)) ?_ ?_ ?_ ?_ ?_); exact rfl; exact rfl; exact rfl; omega; intro w6 ho6 hg6; have HP6 := hd (And.intro (own_kept (u := .slice (some ⟨g2, 0, none⟩) n d2) HP.out.1 hg6 (dj_ne hne)) ho6); have HB6 := hd (belowB HB.out hg6 HG2.out.1 (Nat.le_refl _)); clear ho6 hg6)
                | (go_at_call 21; refine (IX2.out _ (own_sl HP6.out.1 (by unfold maxLen; omega))).mono ?_; rintro e w' ⟨rfl, hw⟩; replace hw := hw.symm; subst hw))
              go_roundw
              case rel =>
                refine ⟨nx x, F', out.set x ct, rfl, ?_, hd (by rw [← E2.out, E3.out]), hd (by rw [List.length_set]; exact HL.out), hd ⟨HP6.out.1, ?_⟩, HB6⟩
                · rcases NX with h | ⟨k, h1, h2, h3⟩
                  · exact .inl h
                  · exact .inr ⟨k, h1, h2, by omega⟩
                · rw [List.map_set]; exact HP6.out.2
              case measure => exact MX.out
      · have e : i = n := by omega
        subst e
        go_wp2
        refine bodyPost_ret (by simp [results, Try.results8, go_sem] <;> rfl) rfl ⟨_, rfl, HP.out.2, HB.out⟩
end Go.Proofs.Ytjcmgjjnkbhamaa.VehI
