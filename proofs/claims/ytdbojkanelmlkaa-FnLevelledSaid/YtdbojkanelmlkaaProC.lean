/- Last ends, and lists of least starts, on both sides: contracts. -/
import Derived.Test.YtdbojkanelmlkaaProB
namespace Go.Proofs.Ytdbojkanelmlkaa
open Go.RowKit Plain
set_option linter.unusedVariables false
set_option linter.unusedSimpArgs false
attribute [local go_sem ↓] Go.wp_at_zero Go.wp_at_succ
set_option maxHeartbeats 2000000 in
theorem lastEnd_any (b o c : Nat) (ts : List TK) (n : Nat) (w : World) (h : TA w b o c ts n) (V : Value) (s : List Int) (hs : SA w V s n (-100000) 200000) :
    Calls Try.prog 32 #[.slice (some ⟨b, o, none⟩) n c, V] w fun r w' => r = .returned (.int .i64 (lastF ts (fun j => s.getD j 0) n)) ∧ Below w.heap.size w w' := by
  have HT := hd h
  have HS := hd hs
  have n1 := h.n1
  have n9 := h.n9
  have hnc := h.nc
  obtain ⟨AV, cV, rfl, hcV, hr⟩ := hs.sl
  have HR := hd hr
  have LB := hd (fun k (hk : k ≤ n) => (show 0 ≤ lastF ts (fun j => s.getD j 0) k ∧ lastF ts (fun j => s.getD j 0) k ≤ 200200 from ⟨(lastF_le ..).1, lastF_bd (by omega) fun j hj => by
    have b := (h.ok j (by omega)).a1
    have e := hs.bd j (by omega)
    omega⟩))
  have LS := hd (fun k => (show lastF ts (fun j => s.getD j 0) (k + 1) = max (lastF ts (fun j => s.getD j 0) k) (s.getD k 0 + (tkAt ts k).a) from rfl))
  have L0 := hd (show lastF ts (fun j => s.getD j 0) 0 = 0 from rfl)
  generalize lastF ts (fun j => s.getD j 0) = L at *
  clear h hs hr
  go_enter Try.func32, Try.ntmps32
  go_wp2
  go_loopw [5, 10] (fun av iv wr => ∃ k : Nat, k ≤ n ∧ iv = .int .i64 k ∧ av = .int .i64 (L k) ∧ Hid (Below w.heap.size w wr)) (fun _ iv _ => n - (intOf iv).toNat)
  case atStart => exact ⟨0, by omega, rfl, by rw [L0.out], hd (Below.refl _ _)⟩
  case round =>
    obtain ⟨k, hk, rfl, rfl, HB⟩ := hrel
    by_cases hlt : k < n
    · obtain ⟨Ab, cb, Al, cl, c0, c1, c2, c3, _⟩ := (HT.out.below HB.out).cl k hlt
      obtain ⟨bv, ov, rfl, cs⟩ := (HR.out.below HB.out).int hlt
      have lb := LB.out k (by omega)
      have ls := LS.out k
      have a0 := (HT.out.ok k hlt).a0
      have a1 := (HT.out.ok k hlt).a1
      have sb := HS.out.bd k hlt
      rw [max_ifT] at ls
      have LS' := hd ls
      have k2 : (k : Int) < (n : Int) := Int.ofNat_lt.2 hlt
      generalize (tkAt ts k).bf.length = m at *
      generalize (tkAt ts k).a = ta at *
      generalize (tkAt ts k).b = tb at *
      generalize s.getD k 0 = x at *
      obtain ⟨z, hz⟩ : ∃ z, z = L k := ⟨_, rfl⟩
      rw [← hz] at lb LS' ⊢
      have w1 : IntKind.i64.wrap (x + ta) = x + ta := IntWalk.i64_in _ (by omega)
      clear hz ls lb a0 a1 sb
      go_upto_region 5 with fail
      have HBW := hd (HB.out.alloc HB.out.size (.cells #[.int .i64 ta, .int .i64 tb, .slice Ab m cb, .slice Al m cl] 34))
      have hcw := below_at ((Below.refl _ wr).alloc (Nat.le_refl _) (.cells #[.int .i64 ta, .int .i64 tb, .slice Ab m cb, .slice Al m cl] 34)) cs
      have ka : (wr.alloc (.cells #[.int .i64 ta, .int .i64 tb, .slice Ab m cb, .slice Al m cl] 34)).cell? ⟨wr.heap.size, 0, none⟩ = some (.int .i64 ta) := (World.cell?_alloc_new ..).trans rfl
      generalize World.alloc wr (.cells #[.int .i64 ta, .int .i64 tb, .slice Ab m cb, .slice Al m cl] 34) = W at *
      generalize wr.heap.size = G at *
      clear cs c0 c1 c2 c3 HB
      go_quiet (fail)
      clear hcw ka w1
      go_wp2
      go_roundw
      case rel => exact ⟨k + 1, by omega, by go_num, by rw [LS'.out], hd (below_drewN HBW.out _)⟩
      case measure => simp [intOf]; omega
    · obtain rfl : n = k := by omega
      go_wp2
      go_ret
      exact ⟨rfl, HB.out⟩
set_option maxHeartbeats 2000000 in
theorem l03End_any (b o c : Nat) (ts : List TK) (n : Nat) (w : World) (h : TA w b o c ts n) (V : Value) (s : List Int) (hs : SA w V s n (-100000) 200000) :
    Calls Try.prog 19 #[.slice (some ⟨b, o, none⟩) n c, V] w fun r w' => r = .returned (.int .i64 (lastF ts (fun j => s.getD j 0) n)) ∧ Below w.heap.size w w' := by
  have HT := hd h
  have HS := hd hs
  have n1 := h.n1
  have n9 := h.n9
  have hnc := h.nc
  obtain ⟨AV, cV, rfl, hcV, hr⟩ := hs.sl
  have HR := hd hr
  have LB := hd (fun k (hk : k ≤ n) => (show 0 ≤ lastF ts (fun j => s.getD j 0) k ∧ lastF ts (fun j => s.getD j 0) k ≤ 200200 from ⟨(lastF_le ..).1, lastF_bd (by omega) fun j hj => by
    have b := (h.ok j (by omega)).a1
    have e := hs.bd j (by omega)
    omega⟩))
  have LS := hd (fun k => (show lastF ts (fun j => s.getD j 0) (k + 1) = max (lastF ts (fun j => s.getD j 0) k) (s.getD k 0 + (tkAt ts k).a) from rfl))
  have L0 := hd (show lastF ts (fun j => s.getD j 0) 0 = 0 from rfl)
  generalize lastF ts (fun j => s.getD j 0) = L at *
  clear h hs hr
  go_enter Try.func19, Try.ntmps19
  go_wp2
  go_loopw [5, 9] (fun av iv wr => ∃ k : Nat, k ≤ n ∧ iv = .int .i64 k ∧ av = .int .i64 (L k) ∧ Hid (Below w.heap.size w wr)) (fun _ iv _ => n - (intOf iv).toNat)
  case atStart => exact ⟨0, by omega, rfl, by rw [L0.out], hd (Below.refl _ _)⟩
  case round =>
    obtain ⟨k, hk, rfl, rfl, HB⟩ := hrel
    by_cases hlt : k < n
    · obtain ⟨Ab, cb, Al, cl, c0, _⟩ := (HT.out.below HB.out).cl k hlt
      obtain ⟨bv, ov, rfl, cs⟩ := (HR.out.below HB.out).int hlt
      have lb := LB.out k (by omega)
      have ls := LS.out k
      have a0 := (HT.out.ok k hlt).a0
      have a1 := (HT.out.ok k hlt).a1
      have sb := HS.out.bd k hlt
      rw [max_ifT] at ls
      have LS' := hd ls
      have k2 : (k : Int) < (n : Int) := Int.ofNat_lt.2 hlt
      generalize (tkAt ts k).a = ta at *
      generalize s.getD k 0 = x at *
      obtain ⟨z, hz⟩ : ∃ z, z = L k := ⟨_, rfl⟩
      rw [← hz] at lb LS' ⊢
      have w1 : IntKind.i64.wrap (x + ta) = x + ta := IntWalk.i64_in _ (by omega)
      clear hz ls lb a0 a1 sb
      go_wp2_with fail
      go_quiet ((go_at_call 39; exact (maxT_any _ _ _).mono fun _ _ h => by (obtain ⟨h1, h2⟩ := h; refine ⟨h1, ?_⟩; rw [h2]; first | exact ⟨_, rfl⟩ | (rw [World.drewN_drewN]; exact ⟨_, rfl⟩))))
      clear cs c0 w1
      go_wp2
      go_roundw
      case rel => exact ⟨k + 1, by omega, by go_num, by rw [LS'.out], hd (below_drewN HB.out _)⟩
      case measure => simp [intOf]; omega
    · obtain rfl : n = k := by omega
      go_wp2
      go_ret
      exact ⟨rfl, HB.out⟩
theorem starts_own {w : World} {base e n cap g : Nat} {s : List Int} (ho : w.ownsRow base e 1 (.slice (some ⟨g, 0, none⟩) n cap) n (s.map vi)) (n9 : n ≤ 9) (hb : ∀ k, k < n → -100000 ≤ s.getD k 0 ∧ s.getD k 0 ≤ 200000) : SA w (.slice (some ⟨g, 0, none⟩) n cap) s n (-100000) 200000 := ⟨own_sl ho (by unfold maxLen; omega), hb⟩
/-- a list of starts, new -/
def StartsOut (s : List Int) (n : Nat) (w : World) (r : Ending) (w' : World) : Prop :=
  r = .returned (.slice (some ⟨w.heap.size, 0, none⟩) n n) ∧ w'.ownsRow w.heap.size 2 1 (.slice (some ⟨w.heap.size, 0, none⟩) n n) n (s.map vi) ∧ Below w.heap.size w w'
set_option maxHeartbeats 2000000 in
theorem earlyStarts_any (b o c : Nat) (ts : List TK) (n : Nat) (w : World) (h : TA w b o c ts n) :
    Calls Try.prog 33 #[.slice (some ⟨b, o, none⟩) n c] w (StartsOut (earlyL ts n n) n w) := by
  have HT := hd h
  have n1 := h.n1
  have n9 := h.n9
  have hnc := h.nc
  have EB := hd (fun i hi j => early_bd h.ok i hi j)
  have ES := hd (fun i => (show earlyL ts n (i + 1) = (earlyL ts n i).set i (leastF ts (fun j => (earlyL ts n i).getD j 0) (tkAt ts i) (tkAt ts i).bf.length) from rfl))
  clear h
  go_enter Try.func33, Try.ntmps33
  go_wp2_with (at_make; go_must (refine wpList_make_int _ rfl _ rfl _ _ n rfl rfl (by omega) ?_); intro w2 ho2 hb2)
  have HO2 := hd (show w2.ownsRow w.heap.size 2 1 (.slice (some ⟨w.heap.size, 0, none⟩) n n) n ((earlyL ts n 0).map vi) by rw [earlyL, List.map_replicate]; exact ho2)
  have HB2 := hd hb2
  clear ho2 hb2
  obtain ⟨R, hR⟩ : ∃ R, R = w.heap.size := ⟨_, rfl⟩
  have HRR := hd hR
  rw [← hR] at HO2 ⊢
  clear hR
  go_loopw [10] (fun iv wr => ∃ i : Nat, i ≤ n ∧ iv = .int .i64 i ∧ Hid (wr.ownsRow R 2 1 (.slice (some ⟨R, 0, none⟩) n n) n ((earlyL ts n i).map vi)) ∧ Hid (Below w.heap.size w wr)) (fun iv _ => n - (intOf iv).toNat)
  case atStart => exact ⟨0, by omega, rfl, HO2, HB2⟩
  case round =>
    clear HO2 HB2
    obtain ⟨i, hi, rfl, HO, HB⟩ := hrel
    by_cases hlt : i < n
    · have i2 : (i : Int) < (n : Int) := Int.ofNat_lt.2 hlt
      have es := ES.out i
      have SA1 := starts_own HO.out n9 (fun k hk => by have := EB.out i hi k; omega)
      have L := hd (earliest_any b o c ts n wr (HT.out.below HB.out) _ (earlyL ts n i) SA1 i hlt)
      have EM := hd (show ((earlyL ts n i).map vi).set i (.int .i64 (leastF ts (fun j => (earlyL ts n i).getD j 0) (tkAt ts i) (tkAt ts i).bf.length)) = (earlyL ts n (i + 1)).map vi by rw [es, List.map_set]; rfl)
      clear SA1 es
      generalize leastF ts (fun j => (earlyL ts n i).getD j 0) (tkAt ts i) (tkAt ts i).bf.length = x at *
      go_wp2_with fail
      go_at_call 21
      refine L.out.mono ?_
      rintro e wq ⟨rfl, q, hwq⟩
      have HOq := hd (show wq.ownsRow R 2 1 (.slice (some ⟨R, 0, none⟩) n n) n ((earlyL ts n i).map vi) by rw [hwq]; exact HO.out)
      have HBq := hd (show Below w.heap.size w wq by rw [hwq]; exact below_drewN HB.out _)
      clear hwq HO HB L
      go_wp2_with ((with_reducible refine wpList_store_own _ R 2 1 n n R _ HOq.out size_int i (.int .i64 x) ?_ ?_ ?_ ?_ ?_); exact rfl; exact rfl; exact rfl; omega; intro w7 ho7 hg7)
      have HO7 := hd (show w7.ownsRow R 2 1 (.slice (some ⟨R, 0, none⟩) n n) n ((earlyL ts n (i + 1)).map vi) by rw [← EM.out]; exact ho7)
      have HB7 := hd (below_row hg7 HBq.out (fun k e => by cases e; rw [HRR.out]; exact Nat.le_refl _))
      clear ho7 hg7
      go_roundw
      case rel => exact ⟨i + 1, by omega, by go_num, HO7, HB7⟩
      case measure => simp [intOf]; omega
    · obtain rfl : n = i := by omega
      have HRo := HRR.out
      go_wp2
      go_ret
      subst HRo
      exact ⟨rfl, HO.out, HB.out⟩
set_option maxHeartbeats 2000000 in
theorem l03Early_any (b o c : Nat) (ts : List TK) (n : Nat) (w : World) (h : TA w b o c ts n) :
    Calls Try.prog 18 #[.slice (some ⟨b, o, none⟩) n c] w (StartsOut (earlyL ts n n) n w) := by
  have HT := hd h
  have n1 := h.n1
  have n9 := h.n9
  have hnc := h.nc
  have EB := hd (fun i hi j => early_bd h.ok i hi j)
  have ES := hd (fun i => (show earlyL ts n (i + 1) = (earlyL ts n i).set i (leastF ts (fun j => (earlyL ts n i).getD j 0) (tkAt ts i) (tkAt ts i).bf.length) from rfl))
  clear h
  go_enter Try.func18, Try.ntmps18
  go_wp2_with (at_make; go_must (refine wpList_make_int _ rfl _ rfl _ _ n rfl rfl (by omega) ?_); intro w2 ho2 hb2)
  have HO2 := hd (show w2.ownsRow w.heap.size 2 1 (.slice (some ⟨w.heap.size, 0, none⟩) n n) n ((earlyL ts n 0).map vi) by rw [earlyL, List.map_replicate]; exact ho2)
  have HB2 := hd hb2
  clear ho2 hb2
  obtain ⟨R, hR⟩ : ∃ R, R = w.heap.size := ⟨_, rfl⟩
  have HRR := hd hR
  rw [← hR] at HO2 ⊢
  clear hR
  go_loopw [10] (fun iv wr => ∃ i : Nat, i ≤ n ∧ iv = .int .i64 i ∧ Hid (wr.ownsRow R 2 1 (.slice (some ⟨R, 0, none⟩) n n) n ((earlyL ts n i).map vi)) ∧ Hid (Below w.heap.size w wr)) (fun iv _ => n - (intOf iv).toNat)
  case atStart => exact ⟨0, by omega, rfl, HO2, HB2⟩
  case round =>
    clear HO2 HB2
    obtain ⟨i, hi, rfl, HO, HB⟩ := hrel
    by_cases hlt : i < n
    · have i2 : (i : Int) < (n : Int) := Int.ofNat_lt.2 hlt
      have es := ES.out i
      have SA1 := starts_own HO.out n9 (fun k hk => by have := EB.out i hi k; omega)
      have L := hd (l03Least_any b o c ts n wr (HT.out.below HB.out) _ (earlyL ts n i) SA1 i hlt)
      have EM := hd (show ((earlyL ts n i).map vi).set i (.int .i64 (leastF ts (fun j => (earlyL ts n i).getD j 0) (tkAt ts i) (tkAt ts i).bf.length)) = (earlyL ts n (i + 1)).map vi by rw [es, List.map_set]; rfl)
      clear SA1 es
      generalize leastF ts (fun j => (earlyL ts n i).getD j 0) (tkAt ts i) (tkAt ts i).bf.length = x at *
      go_wp2_with fail
      go_at_call 25
      refine L.out.mono ?_
      rintro e wq ⟨rfl, q, hwq⟩
      have HOq := hd (show wq.ownsRow R 2 1 (.slice (some ⟨R, 0, none⟩) n n) n ((earlyL ts n i).map vi) by rw [hwq]; exact HO.out)
      have HBq := hd (show Below w.heap.size w wq by rw [hwq]; exact below_drewN HB.out _)
      clear hwq HO HB L
      go_wp2_with ((with_reducible refine wpList_store_own _ R 2 1 n n R _ HOq.out size_int i (.int .i64 x) ?_ ?_ ?_ ?_ ?_); exact rfl; exact rfl; exact rfl; omega; intro w7 ho7 hg7)
      have HO7 := hd (show w7.ownsRow R 2 1 (.slice (some ⟨R, 0, none⟩) n n) n ((earlyL ts n (i + 1)).map vi) by rw [← EM.out]; exact ho7)
      have HB7 := hd (below_row hg7 HBq.out (fun k e => by cases e; rw [HRR.out]; exact Nat.le_refl _))
      clear ho7 hg7
      go_roundw
      case rel => exact ⟨i + 1, by omega, by go_num, HO7, HB7⟩
      case measure => simp [intOf]; omega
    · obtain rfl : n = i := by omega
      have HRo := HRR.out
      go_wp2
      go_ret
      subst HRo
      exact ⟨rfl, HO.out, HB.out⟩
/-- least starts, and the end -/
def EarlyOut (ts : List TK) (n : Nat) (w : World) (r : Ending) (w' : World) : Prop :=
  ∃ g, r = .returned (.tuple #[.slice (some ⟨g, 0, none⟩) n n, .int .i64 (lastF ts (eS ts n) n), .bool true]) ∧ w'.ownsRow w.heap.size 2 1 (.slice (some ⟨g, 0, none⟩) n n) n ((earlyL ts n n).map vi) ∧ Below w.heap.size w w'
set_option maxHeartbeats 1000000 in
theorem EarlyStarts_any (b o c : Nat) (ts : List TK) (n : Nat) (w : World) (h : TA w b o c ts n) :
    Calls Try.prog 14 #[.slice (some ⟨b, o, none⟩) n c] w (EarlyOut ts n w) := by
  have HA := hd (AreTasks_any b o c ts n w h)
  have HE := hd (fun w' hb => earlyStarts_any b o c ts n w' (h.below hb))
  have HL := hd (fun w' hb V hs => lastEnd_any b o c ts n w' (h.below hb) V (earlyL ts n n) hs)
  have n9 := h.n9
  have EB := hd (fun j => early_bd h.ok n (Nat.le_refl _) j)
  clear h
  go_enter Try.func14, Try.ntmps14
  go_wp2_with fail
  go_at_call 28
  refine HA.out.mono ?_; rintro e w1 ⟨rfl, hb1⟩
  have B1 := hd hb1
  clear hb1
  go_wp2_with fail
  go_at_call 33
  refine (HE.out w1 B1.out).mono ?_; rintro e w2 ⟨rfl, ho2, hb2⟩
  have B2 := hd (below_tr hb2 B1.out)
  have O2 := hd (own_mono ho2 B1.out.size)
  have S2 := starts_own ho2 n9 (fun k hk => by have := EB.out k; omega)
  generalize w1.heap.size = g at *
  clear ho2 hb2
  go_wp2_with fail
  go_at_call 32
  refine (HL.out w2 B2.out _ S2).mono ?_; rintro e w3 ⟨rfl, hb3⟩
  have B3 := hd (below_tr hb3 B2.out)
  have O3 := hd (own_below O2.out hb3)
  clear hb3
  go_wp2
  refine bodyPost_ret (by simp [results, Try.results14, go_sem] <;> rfl) rfl ⟨g, rfl, O3.out, B3.out⟩
end Go.Proofs.Ytdbojkanelmlkaa
