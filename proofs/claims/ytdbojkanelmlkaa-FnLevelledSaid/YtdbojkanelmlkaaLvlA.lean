/- What tasks need at each time, and the squares of it, on both sides: contracts. -/
import Derived.Test.YtdbojkanelmlkaaLvlT
import Derived.Test.YtdbojkanelmlkaaProC
import Derived.StillTailTactics
import Derived.Deep.CutRange
namespace Go.Proofs.Ytdbojkanelmlkaa
open Go.RowKit Plain
set_option linter.unusedVariables false
set_option linter.unusedSimpArgs false
attribute [local go_sem ↓] Go.wp_at_zero Go.wp_at_succ
/-- starts that are not below 0, and an end that is not far -/
structure PA (ts : List TK) (s : List Int) (n E : Nat) : Prop where
  nn : ∀ i, i < n → 0 ≤ s.getD i 0
  en : lastF ts (fun j => s.getD j 0) n = (E : Int)
  e9 : E ≤ 600
/-- the row of what is needed -/
def UseOut (ts : List TK) (s : List Int) (n E : Nat) (w : World) (r : Ending) (w' : World) : Prop :=
  ∃ u, r = .returned u ∧ w'.ownsRow w.heap.size 2 1 u E ((useL ts (fun j => s.getD j 0) E n).map vi) ∧ Below w.heap.size w w'
set_option maxHeartbeats 4000000 in
theorem crewUse_any (b o c : Nat) (ts : List TK) (n : Nat) (w : World) (h : TA w b o c ts n) (V : Value) (s : List Int) (hs : SA w V s n (-100000) 200000) (E : Nat) (hp : PA ts s n E) :
    Calls Try.prog 41 #[.slice (some ⟨b, o, none⟩) n c, V] w (UseOut ts s n E w) := by
  have LE := hd (lastEnd_any b o c ts n w h V s hs)
  rw [hp.en] at LE
  have HT := hd h
  have HS := hd hs
  have n1 := h.n1
  have n9 := h.n9
  have hnc := h.nc
  have e9 := hp.e9
  obtain ⟨AV, cV, rfl, hcV, hr⟩ := hs.sl
  have HR := hd hr
  have HP := hd hp
  have LF := hd (fun i (hi : i < n) => (show s.getD i 0 + (tkAt ts i).a ≤ (E : Int) by rw [← hp.en]; exact (lastF_le ts (fun j => s.getD j 0) n).2 i hi))
  have UL := hd (fun i => useL_len ts (fun j => s.getD j 0) E i)
  have UB := hd (fun i (hi : i ≤ n) => useL_bd h.ok (fun j => s.getD j 0) E i hi)
  have US := hd (fun i => (show useL ts (fun j => s.getD j 0) E (i + 1) = addR (useL ts (fun j => s.getD j 0) E i) (s.getD i 0).toNat (tkAt ts i).b (tkAt ts i).a.toNat from rfl))
  have U0 := hd (show useL ts (fun j => s.getD j 0) E 0 = List.replicate E 0 from rfl)
  obtain ⟨U, hU⟩ : ∃ U, U = useL ts (fun j => s.getD j 0) E := ⟨_, rfl⟩
  rw [← hU] at UL UB US U0
  have HU := hd hU
  clear hU
  clear h hs hr hp
  go_enter Try.func41, Try.ntmps41
  go_wp2_with (first
    | (go_at_call 32; refine LE.out.mono ?_; rintro e w1 ⟨rfl, hb1⟩)
    | (at_make; go_must (refine wpList_make_int _ rfl _ rfl _ _ E rfl rfl (by omega) ?_); intro w2 ho2 hb2))
  have HO2 := hd (show w2.ownsRow w.heap.size 2 1 (.slice (some ⟨w1.heap.size, 0, none⟩) E E) E ((U 0).map vi) by rw [U0.out, List.map_replicate]; exact own_mono ho2 hb1.size)
  have HB2 := hd (below_tr hb2 hb1)
  obtain ⟨R, hR⟩ : ∃ R, R = w1.heap.size := ⟨_, rfl⟩
  have hRw : w.heap.size ≤ R := by rw [hR]; exact hb1.size
  rw [← hR] at HO2 ⊢
  clear ho2 hb2 hb1 hR LE
  go_loopw [15] (fun iv wr => ∃ i : Nat, i ≤ n ∧ iv = .int .i64 i ∧ Hid (wr.ownsRow w.heap.size 2 1 (.slice (some ⟨R, 0, none⟩) E E) E ((U i).map vi)) ∧ Hid (Below w.heap.size w wr)) (fun iv _ => n - (intOf iv).toNat)
  case atStart => exact ⟨0, by omega, rfl, HO2, HB2⟩
  case round =>
    clear HO2 HB2
    obtain ⟨i, hi, rfl, HO, HB⟩ := hrel
    by_cases hlt : i < n
    · have i2 : (i : Int) < (n : Int) := Int.ofNat_lt.2 hlt
      obtain ⟨Ab, cb, Al, cl, c0', c1', c2', c3', hb, hl, hcb, hcl⟩ := HT.out.cl i hlt
      have c0 := below_at HB.out c0'
      have c1 := below_at HB.out c1'
      have c2 := below_at HB.out c2'
      have c3 := below_at HB.out c3'
      have OK := HT.out.ok i hlt
      have a0 := OK.a0
      have a1 := OK.a1
      have b0 := OK.b0
      have b1 := OK.b1
      have lf := LF.out i hlt
      have us := US.out i
      have nn := HP.out.nn i hlt
      obtain ⟨bs, os, rfl, cs'⟩ := HR.out.int hlt
      have ub := UB.out i hi
      have ul := UL.out i
      clear c0' c1' c2' c3' hb hl hcb hcl OK
      generalize (tkAt ts i).a = ta at *
      generalize (tkAt ts i).b = tb at *
      generalize (tkAt ts i).bf.length = m1 at *
      generalize s.getD i 0 = si at *
      obtain ⟨p, rfl⟩ : ∃ p : Nat, si = (p : Int) := ⟨si.toNat, by omega⟩
      obtain ⟨an, rfl⟩ : ∃ an : Nat, ta = (an : Int) := ⟨ta.toNat, by omega⟩
      rw [Int.toNat_natCast, Int.toNat_natCast] at us
      have UI := hd us
      have RB := hd (fun k => addR_bd (p := p) b0 ub k)
      have RL := hd (fun k => (addR_len (U i) p tb k).trans ul)
      have RS := hd (fun k => (show addR (U i) p tb (k + 1) = (addR (U i) p tb k).set (p + k) ((addR (U i) p tb k).getD (p + k) 0 + tb) from rfl))
      have R0 := hd (show addR (U i) p tb 0 = U i from rfl)
      generalize addR (U i) p tb = F at *
      clear us ub ul nn
      go_upto_region 5 with fail
      have BXo := (.cells #[.int .i64 (an : Int), .int .i64 tb, .slice Ab m1 cb, .slice Al m1 cl] 34 : Obj)
      have k0 : (wr.alloc (.cells #[.int .i64 (an : Int), .int .i64 tb, .slice Ab m1 cb, .slice Al m1 cl] 34)).cell? ⟨wr.heap.size, 0, none⟩ = some (.int .i64 (an : Int)) := (World.cell?_alloc_new ..).trans rfl
      have k1 : (wr.alloc (.cells #[.int .i64 (an : Int), .int .i64 tb, .slice Ab m1 cb, .slice Al m1 cl] 34)).cell? ⟨wr.heap.size, 1, none⟩ = some (.int .i64 tb) := (World.cell?_alloc_new ..).trans rfl
      have HBW := hd (HB.out.alloc HB.out.size (.cells #[.int .i64 (an : Int), .int .i64 tb, .slice Ab m1 cb, .slice Al m1 cl] 34))
      have HOW := hd (show (wr.alloc (.cells #[.int .i64 (an : Int), .int .i64 tb, .slice Ab m1 cb, .slice Al m1 cl] 34)).ownsRow w.heap.size 2 1 (.slice (some ⟨R, 0, none⟩) E E) E ((F 0).map vi) by rw [R0.out]; exact HO.out.alloc _)
      have hGR : R < wr.heap.size := by have := (World.ownsRow.lt HO.out _ rfl).2; simp only at this; omega
      clear c0 c1 c2 c3 HO HB BXo
      generalize World.alloc wr (.cells #[.int .i64 (an : Int), .int .i64 tb, .slice Ab m1 cb, .slice Al m1 cl] 34) = X at *
      generalize wr.heap.size = G at *
      have csX := below_at HBW.out cs'
      go_wp2
      clear csX
      have K0 := hd k0
      have K1 := hd k1
      clear k0 k1
      go_loopw [8] (fun tv wr => ∃ k : Nat, k ≤ an ∧ tv = .int .i64 ((p : Int) + k) ∧ Hid (wr.ownsRow w.heap.size 2 1 (.slice (some ⟨R, 0, none⟩) E E) E ((F k).map vi)) ∧ Hid (Below w.heap.size w wr) ∧ wr.cell? ⟨G, 0, none⟩ = some (.int .i64 (an : Int)) ∧ wr.cell? ⟨G, 1, none⟩ = some (.int .i64 tb)) (fun tv _ => p + an - (intOf tv).toNat)
      case atStart => exact ⟨0, by omega, by simp, HOW, HBW, K0.out, K1.out⟩
      case round =>
        clear HOW HBW K0 K1
        obtain ⟨k, hk, rfl, HO, HB, k0, k1⟩ := hrel
        have cs := below_at HB.out cs'
        have w1' : IntKind.i64.wrap ((p : Int) + (an : Int)) = (p : Int) + an := IntWalk.i64_in _ (by omega)
        obtain ⟨pk, hpk⟩ : ∃ pk : Nat, pk = p + k := ⟨_, rfl⟩
        rw [show ((p : Int) + (k : Int)) = (pk : Int) by omega]
        by_cases hka : k < an
        · have hc : (pk : Int) < (p : Int) + (an : Int) := by omega
          have hpE : pk < E := by omega
          have hpi : (pk : Int) < (E : Int) := Int.ofNat_lt.2 hpE
          have rs := RS.out k
          rw [← hpk] at rs
          have rb := RB.out k pk
          have cE := HO.out.cellAt pk (by omega)
          have hl : pk < (F k).length := by rw [RL.out]; exact hpE
          rw [List.getElem?_map, List.getElem?_eq_getElem hl, Option.map_some] at cE
          have hx : (F k)[pk] = (F k).getD pk 0 := by rw [List.getD_eq_getElem?_getD, List.getElem?_eq_getElem hl]; rfl
          rw [hx] at cE
          have EM := hd (show ((F k).map vi).set pk (.int .i64 ((F k).getD pk 0 + tb)) = (F (k + 1)).map vi by rw [rs, List.map_set]; rfl)
          have hbx : 0 ≤ (F k).getD pk 0 ∧ (F k).getD pk 0 ≤ 300 := by
            refine ⟨rb.1, Int.le_trans rb.2 ?_⟩
            split <;> omega
          generalize (F k).getD pk 0 = x at *
          have cE' : wr.cell? ⟨R, pk, none⟩ = some (.int .i64 x) := cE
          have w2' : IntKind.i64.wrap (x + tb) = x + tb := IntWalk.i64_in _ (by omega)
          have HPK := hd hpk
          clear rs rb hl hx cE hpk
          go_wp2_with fail
          go_quiet (fail)
          obtain ⟨Y, hY⟩ : ∃ Y, Y = wr.drewN nq := ⟨_, rfl⟩
          have HOY := hd (show Y.ownsRow w.heap.size 2 1 (.slice (some ⟨R, 0, none⟩) E E) E ((F k).map vi) by rw [hY]; exact HO.out)
          have HBY := hd (show Below w.heap.size w Y by rw [hY]; exact below_drewN HB.out nq)
          have y0 : Y.cell? ⟨G, 0, none⟩ = some (.int .i64 (an : Int)) := by rw [hY]; exact k0
          have y1 : Y.cell? ⟨G, 1, none⟩ = some (.int .i64 tb) := by rw [hY]; exact k1
          have yE : Y.cell? ⟨R, pk, none⟩ = some (.int .i64 x) := by rw [hY]; exact cE'
          rw [← hY]
          have Y0 := hd y0
          have Y1 := hd y1
          clear hY HO HB k0 k1 cE' cs y0
          go_wp2_with fail
          go_still_tail 8, (by kernel_rfl)
          change wpList _ _ _ _ _ Y.drew
          have HOd := hd (show Y.drew.ownsRow w.heap.size 2 1 (.slice (some ⟨R, 0, none⟩) E E) E ((F k).map vi) from HOY.out.drew)
          have HBd := hd (show Below w.heap.size w Y.drew from HBY.out.drew)
          have Y0' := hd (show Y.drew.cell? ⟨G, 0, none⟩ = some (.int .i64 (an : Int)) from Y0.out)
          have Y1' := hd (show Y.drew.cell? ⟨G, 1, none⟩ = some (.int .i64 tb) from Y1.out)
          have hwk : IntKind.i64.wrap ((pk : Int) + 1) = (pk : Int) + 1 := IntWalk.i64_in _ (by omega)
          clear y1 yE w2' HOY HBY
          go_wp2_with ((with_reducible refine wpList_store_own _ w.heap.size 2 1 E E R _ HOd.out size_int pk (.int .i64 (x + tb)) ?_ ?_ ?_ ?_ ?_); exact rfl; exact rfl; exact rfl; omega; intro w7 ho7 hg7)
          have HO7 := hd (show w7.ownsRow w.heap.size 2 1 (.slice (some ⟨R, 0, none⟩) E E) E ((F (k + 1)).map vi) by rw [← EM.out]; exact ho7)
          have HB7 := hd (below_row hg7 HBd.out (fun k e => by cases e; exact hRw))
          have z0 := hg7.cell Y0'.out (by simp; omega)
          have z1 := hg7.cell Y1'.out (by simp; omega)
          clear ho7 hg7 HOd HBd
          go_roundw
          case rel => exact ⟨k + 1, by omega, by first | go_num | (have := HPK.out; congr 1; omega), HO7, HB7, z0, z1⟩
          case measure => simp [intOf]; omega
        · have hc : ¬ (pk : Int) < (p : Int) + (an : Int) := by omega
          obtain rfl : k = an := by omega
          go_wp2_with fail
          go_quiet (fail)
          go_wp2
          go_roundw
          case rel => exact ⟨i + 1, by omega, by go_num, hd (by rw [UI.out]; exact HO.out), hd (below_drewN HB.out _)⟩
          case measure => simp [intOf]; omega
    · obtain rfl : n = i := by omega
      go_wp2
      go_ret
      exact ⟨.slice (some ⟨R, 0, none⟩) E E, rfl, by rw [← HU.out]; exact HO.out, HB.out⟩
set_option maxHeartbeats 4000000 in
theorem l03Use_any (b o c : Nat) (ts : List TK) (n : Nat) (w : World) (h : TA w b o c ts n) (V : Value) (s : List Int) (hs : SA w V s n (-100000) 200000) (E : Nat) (hp : PA ts s n E) :
    Calls Try.prog 42 #[.slice (some ⟨b, o, none⟩) n c, V] w (UseOut ts s n E w) := by
  have LE := hd (l03End_any b o c ts n w h V s hs)
  rw [hp.en] at LE
  have HT := hd h
  have HS := hd hs
  have n1 := h.n1
  have n9 := h.n9
  have hnc := h.nc
  have e9 := hp.e9
  obtain ⟨AV, cV, rfl, hcV, hr⟩ := hs.sl
  have HR := hd hr
  have HP := hd hp
  have LF := hd (fun i (hi : i < n) => (show s.getD i 0 + (tkAt ts i).a ≤ (E : Int) by rw [← hp.en]; exact (lastF_le ts (fun j => s.getD j 0) n).2 i hi))
  have UL := hd (fun i => useL_len ts (fun j => s.getD j 0) E i)
  have UB := hd (fun i (hi : i ≤ n) => useL_bd h.ok (fun j => s.getD j 0) E i hi)
  have US := hd (fun i => (show useL ts (fun j => s.getD j 0) E (i + 1) = addR (useL ts (fun j => s.getD j 0) E i) (s.getD i 0).toNat (tkAt ts i).b (tkAt ts i).a.toNat from rfl))
  have U0 := hd (show useL ts (fun j => s.getD j 0) E 0 = List.replicate E 0 from rfl)
  obtain ⟨U, hU⟩ : ∃ U, U = useL ts (fun j => s.getD j 0) E := ⟨_, rfl⟩
  rw [← hU] at UL UB US U0
  have HU := hd hU
  clear hU
  clear h hs hr hp
  go_enter Try.func42, Try.ntmps42
  go_wp2_with (first
    | (go_at_call 19; refine LE.out.mono ?_; rintro e w1 ⟨rfl, hb1⟩)
    | (at_make; go_must (refine wpList_make_int _ rfl _ rfl _ _ E rfl rfl (by omega) ?_); intro w2 ho2 hb2))
  have HO2 := hd (show w2.ownsRow w.heap.size 2 1 (.slice (some ⟨w1.heap.size, 0, none⟩) E E) E ((U 0).map vi) by rw [U0.out, List.map_replicate]; exact own_mono ho2 hb1.size)
  have HB2 := hd (below_tr hb2 hb1)
  obtain ⟨R, hR⟩ : ∃ R, R = w1.heap.size := ⟨_, rfl⟩
  have hRw : w.heap.size ≤ R := by rw [hR]; exact hb1.size
  rw [← hR] at HO2 ⊢
  clear ho2 hb2 hb1 hR LE
  go_loopw [14] (fun iv wr => ∃ i : Nat, i ≤ n ∧ iv = .int .i64 i ∧ Hid (wr.ownsRow w.heap.size 2 1 (.slice (some ⟨R, 0, none⟩) E E) E ((U i).map vi)) ∧ Hid (Below w.heap.size w wr)) (fun iv _ => n - (intOf iv).toNat)
  case atStart => exact ⟨0, by omega, rfl, HO2, HB2⟩
  case round =>
    clear HO2 HB2
    obtain ⟨i, hi, rfl, HO, HB⟩ := hrel
    by_cases hlt : i < n
    · have i2 : (i : Int) < (n : Int) := Int.ofNat_lt.2 hlt
      obtain ⟨Ab, cb, Al, cl, c0', c1', c2', c3', hb, hl, hcb, hcl⟩ := HT.out.cl i hlt
      have C0w := hd c0'
      have C1w := hd c1'
      have OK := HT.out.ok i hlt
      have a0 := OK.a0
      have a1 := OK.a1
      have b0 := OK.b0
      have b1 := OK.b1
      have lf := LF.out i hlt
      have us := US.out i
      have nn := HP.out.nn i hlt
      obtain ⟨bs, os, rfl, cs'⟩ := HR.out.int hlt
      have ub := UB.out i hi
      have ul := UL.out i
      clear c0' c1' c2' c3' hb hl hcb hcl OK
      generalize (tkAt ts i).a = ta at *
      generalize (tkAt ts i).b = tb at *
      generalize s.getD i 0 = si at *
      obtain ⟨p, rfl⟩ : ∃ p : Nat, si = (p : Int) := ⟨si.toNat, by omega⟩
      obtain ⟨an, rfl⟩ : ∃ an : Nat, ta = (an : Int) := ⟨ta.toNat, by omega⟩
      rw [Int.toNat_natCast, Int.toNat_natCast] at us
      have UI := hd us
      have RB := hd (fun k => addR_bd (p := p) b0 ub k)
      have RL := hd (fun k => (addR_len (U i) p tb k).trans ul)
      have RS := hd (fun k => (show addR (U i) p tb (k + 1) = (addR (U i) p tb k).set (p + k) ((addR (U i) p tb k).getD (p + k) 0 + tb) from rfl))
      have R0 := hd (show addR (U i) p tb 0 = U i from rfl)
      generalize addR (U i) p tb = F at *
      clear us ub ul nn
      go_upto_region 5 with fail
      have HOW := hd (show wr.ownsRow w.heap.size 2 1 (.slice (some ⟨R, 0, none⟩) E E) E ((F 0).map vi) by rw [R0.out]; exact HO.out)
      have HBW := HB
      have csX := below_at HBW.out cs'
      go_wp2
      clear csX HO HB
      go_loopw [7] (fun tv wr => ∃ k : Nat, k ≤ an ∧ tv = .int .i64 ((p : Int) + k) ∧ Hid (wr.ownsRow w.heap.size 2 1 (.slice (some ⟨R, 0, none⟩) E E) E ((F k).map vi)) ∧ Hid (Below w.heap.size w wr)) (fun tv _ => p + an - (intOf tv).toNat)
      case atStart => exact ⟨0, by omega, by simp, HOW, HBW⟩
      case round =>
        clear HOW HBW
        obtain ⟨k, hk, rfl, HO, HB⟩ := hrel
        have k0 := below_at HB.out C0w.out
        have k1 := below_at HB.out C1w.out
        have cs := below_at HB.out cs'
        have w1' : IntKind.i64.wrap ((p : Int) + (an : Int)) = (p : Int) + an := IntWalk.i64_in _ (by omega)
        obtain ⟨pk, hpk⟩ : ∃ pk : Nat, pk = p + k := ⟨_, rfl⟩
        rw [show ((p : Int) + (k : Int)) = (pk : Int) by omega]
        by_cases hka : k < an
        · have hc : (pk : Int) < (p : Int) + (an : Int) := by omega
          have hpE : pk < E := by omega
          have hpi : (pk : Int) < (E : Int) := Int.ofNat_lt.2 hpE
          have rs := RS.out k
          rw [← hpk] at rs
          have rb := RB.out k pk
          have cE := HO.out.cellAt pk (by omega)
          have hl : pk < (F k).length := by rw [RL.out]; exact hpE
          rw [List.getElem?_map, List.getElem?_eq_getElem hl, Option.map_some] at cE
          have hx : (F k)[pk] = (F k).getD pk 0 := by rw [List.getD_eq_getElem?_getD, List.getElem?_eq_getElem hl]; rfl
          rw [hx] at cE
          have EM := hd (show ((F k).map vi).set pk (.int .i64 ((F k).getD pk 0 + tb)) = (F (k + 1)).map vi by rw [rs, List.map_set]; rfl)
          have hbx : 0 ≤ (F k).getD pk 0 ∧ (F k).getD pk 0 ≤ 300 := by
            refine ⟨rb.1, Int.le_trans rb.2 ?_⟩
            split <;> omega
          generalize (F k).getD pk 0 = x at *
          have cE' : wr.cell? ⟨R, pk, none⟩ = some (.int .i64 x) := cE
          have w2' : IntKind.i64.wrap (x + tb) = x + tb := IntWalk.i64_in _ (by omega)
          have HPK := hd hpk
          clear rs rb hl hx cE hpk
          go_wp2_with fail
          go_quiet (fail)
          obtain ⟨Y, hY⟩ : ∃ Y, Y = wr.drewN nq := ⟨_, rfl⟩
          have HOY := hd (show Y.ownsRow w.heap.size 2 1 (.slice (some ⟨R, 0, none⟩) E E) E ((F k).map vi) by rw [hY]; exact HO.out)
          have HBY := hd (show Below w.heap.size w Y by rw [hY]; exact below_drewN HB.out nq)
          have y0 : Y.cell? ⟨b, o + i * 4, none⟩ = some (.int .i64 (an : Int)) := by rw [hY]; exact k0
          have y1 : Y.cell? ⟨b, o + i * 4 + 1, none⟩ = some (.int .i64 tb) := by rw [hY]; exact k1
          have yE : Y.cell? ⟨R, pk, none⟩ = some (.int .i64 x) := by rw [hY]; exact cE'
          rw [← hY]
          have Y0 := hd y0
          have Y1 := hd y1
          clear hY HO HB k0 k1 cE' cs y0
          go_wp2_with fail
          go_still_tail 11, (by kernel_rfl)
          change wpList _ _ _ _ _ Y.drew
          have HOd := hd (show Y.drew.ownsRow w.heap.size 2 1 (.slice (some ⟨R, 0, none⟩) E E) E ((F k).map vi) from HOY.out.drew)
          have HBd := hd (show Below w.heap.size w Y.drew from HBY.out.drew)
          have hwk : IntKind.i64.wrap ((pk : Int) + 1) = (pk : Int) + 1 := IntWalk.i64_in _ (by omega)
          clear y1 yE w2' HOY HBY
          go_wp2_with ((with_reducible refine wpList_store_own _ w.heap.size 2 1 E E R _ HOd.out size_int pk (.int .i64 (x + tb)) ?_ ?_ ?_ ?_ ?_); exact rfl; exact rfl; exact rfl; omega; intro w7 ho7 hg7)
          have HO7 := hd (show w7.ownsRow w.heap.size 2 1 (.slice (some ⟨R, 0, none⟩) E E) E ((F (k + 1)).map vi) by rw [← EM.out]; exact ho7)
          have HB7 := hd (below_row hg7 HBd.out (fun k e => by cases e; exact hRw))
          clear ho7 hg7 HOd HBd
          go_roundw
          case rel => exact ⟨k + 1, by omega, by first | go_num | (have := HPK.out; congr 1; omega), HO7, HB7⟩
          case measure => simp [intOf]; omega
        · have hc : ¬ (pk : Int) < (p : Int) + (an : Int) := by omega
          obtain rfl : k = an := by omega
          go_wp2_with fail
          go_quiet (fail)
          go_wp2
          go_roundw
          case rel => exact ⟨i + 1, by omega, by go_num, hd (by rw [UI.out]; exact HO.out), hd (below_drewN HB.out _)⟩
          case measure => simp [intOf]; omega
    · obtain rfl : n = i := by omega
      go_wp2
      go_ret
      exact ⟨.slice (some ⟨R, 0, none⟩) E E, rfl, by rw [← HU.out]; exact HO.out, HB.out⟩
set_option maxHeartbeats 2000000 in
theorem squares_any (b o c : Nat) (ts : List TK) (n : Nat) (w : World) (h : TA w b o c ts n) (V : Value) (s : List Int) (hs : SA w V s n (-100000) 200000) (E : Nat) (hp : PA ts s n E) :
    Calls Try.prog 23 #[.slice (some ⟨b, o, none⟩) n c, V] w fun r w' => r = .returned (.int .i64 (sqS ts n s)) ∧ Below w.heap.size w w' := by
  have CU := hd (crewUse_any b o c ts n w h V s hs E hp)
  have e9 := hp.e9
  have n9 := h.n9
  have UB := hd (useL_bd h.ok (fun j => s.getD j 0) E n (Nat.le_refl _))
  have UL := hd (useL_len ts (fun j => s.getD j 0) E n)
  have SQ := hd (show sqS ts n s = sqN (useL ts (fun j => s.getD j 0) E n) E by rw [sqS, hp.en, Int.toNat_natCast])
  rw [SQ.out]
  obtain ⟨AV, cV, rfl, hcV, hr⟩ := hs.sl
  clear h hs hr hp SQ
  go_enter Try.func23, Try.ntmps23
  go_wp2_with fail
  go_at_call 41
  refine CU.out.mono ?_
  rintro e w1 ⟨u, rfl, ho1, hb1⟩
  obtain ⟨l, hl⟩ : ∃ l, l = useL ts (fun j => s.getD j 0) E n := ⟨_, rfl⟩
  rw [← hl] at ho1 UB UL
  have HLl := hd hl
  clear hl
  obtain ⟨A1, c1, rfl, _, hr1, _⟩ := own_rd ho1 (by unfold maxLen; omega)
  have HR1 := hd hr1
  have HB1 := hd hb1
  have SB := hd (fun k (hk : k ≤ E) => sqN_bd (l := l) (B := 180) (by omega) (fun j => ⟨(UB.out j).1, Int.le_trans (UB.out j).2 (by omega)⟩) k)
  have SS := hd (fun k => (show sqN l (k + 1) = sqN l k + l.getD k 0 * l.getD k 0 from rfl))
  have S0 := hd (show sqN l 0 = 0 from rfl)
  clear ho1 hr1 hb1 CU
  obtain ⟨S, hS⟩ : ∃ S, S = sqN l := ⟨_, rfl⟩
  rw [← hS] at SB SS S0
  have HS9 := hd hS
  clear hS
  go_wp2
  go_loopw [5, 12] (fun SV iv wr => ∃ k q : Nat, k ≤ E ∧ iv = .int .i64 k ∧ SV = .int .i64 (S k) ∧ wr = w1.drewN q) (fun _ iv _ => E - (intOf iv).toNat)
  case atStart => exact ⟨0, 0, by omega, rfl, by rw [S0.out], rfl⟩
  case round =>
    obtain ⟨k, q, hk, rfl, rfl, hw⟩ := hrel
    subst hw
    by_cases hlt : k < E
    · have k2 : (k : Int) < (E : Int) := Int.ofNat_lt.2 hlt
      obtain ⟨bb, ob, rfl, cx⟩ := HR1.out.int hlt
      have ss := SS.out k
      have sb := SB.out k hk
      have sb1 := SB.out (k + 1) (by omega)
      have ub := UB.out k
      generalize l.getD k 0 = x at *
      obtain ⟨y, hy⟩ : ∃ y, y = S k := ⟨_, rfl⟩
      rw [← hy] at ss sb ⊢
      obtain ⟨pr, hpr⟩ : ∃ pr, pr = x * x := ⟨_, rfl⟩
      rw [← hpr] at ss
      have hp0 : 0 ≤ pr := by rw [hpr]; exact Int.mul_nonneg ub.1 ub.1
      have hp1 : pr ≤ 180 * 180 := by rw [hpr]; exact Int.mul_le_mul (by omega) (by omega) ub.1 (by omega)
      have w1' : IntKind.i64.wrap (x * x) = pr := by rw [← hpr]; exact IntWalk.i64_in _ (by omega)
      have w2' : IntKind.i64.wrap (y + pr) = y + pr := IntWalk.i64_in _ (by omega)
      have HSS := hd ss
      clear ss sb sb1 ub hy hpr hp0 hp1
      go_wp2
      go_roundw
      case rel => exact ⟨k + 1, q, by omega, by go_num, by rw [HSS.out], by first | rfl | rw [World.drewN_drewN]⟩
      case measure => simp [intOf]; omega
    · obtain rfl : E = k := by omega
      go_wp2
      go_ret
      exact ⟨by rw [HS9.out, HLl.out]; rfl, below_drewN HB1.out _⟩
set_option maxHeartbeats 2000000 in
theorem l03Squares_any (b o c : Nat) (ts : List TK) (n : Nat) (w : World) (h : TA w b o c ts n) (V : Value) (s : List Int) (hs : SA w V s n (-100000) 200000) (E : Nat) (hp : PA ts s n E) :
    Calls Try.prog 27 #[.slice (some ⟨b, o, none⟩) n c, V] w fun r w' => r = .returned (.int .i64 (sqS ts n s)) ∧ Below w.heap.size w w' := by
  have CU := hd (l03Use_any b o c ts n w h V s hs E hp)
  have e9 := hp.e9
  have n9 := h.n9
  have UB := hd (useL_bd h.ok (fun j => s.getD j 0) E n (Nat.le_refl _))
  have UL := hd (useL_len ts (fun j => s.getD j 0) E n)
  have SQ := hd (show sqS ts n s = sqN (useL ts (fun j => s.getD j 0) E n) E by rw [sqS, hp.en, Int.toNat_natCast])
  rw [SQ.out]
  obtain ⟨AV, cV, rfl, hcV, hr⟩ := hs.sl
  clear h hs hr hp SQ
  go_enter Try.func27, Try.ntmps27
  go_wp2_with fail
  go_at_call 42
  refine CU.out.mono ?_
  rintro e w1 ⟨u, rfl, ho1, hb1⟩
  obtain ⟨l, hl⟩ : ∃ l, l = useL ts (fun j => s.getD j 0) E n := ⟨_, rfl⟩
  rw [← hl] at ho1 UB UL
  have HLl := hd hl
  clear hl
  obtain ⟨A1, c1, rfl, _, hr1, _⟩ := own_rd ho1 (by unfold maxLen; omega)
  have HR1 := hd hr1
  have HB1 := hd hb1
  have SB := hd (fun k (hk : k ≤ E) => sqN_bd (l := l) (B := 180) (by omega) (fun j => ⟨(UB.out j).1, Int.le_trans (UB.out j).2 (by omega)⟩) k)
  have SS := hd (fun k => (show sqN l (k + 1) = sqN l k + l.getD k 0 * l.getD k 0 from rfl))
  have S0 := hd (show sqN l 0 = 0 from rfl)
  clear ho1 hr1 hb1 CU
  obtain ⟨S, hS⟩ : ∃ S, S = sqN l := ⟨_, rfl⟩
  rw [← hS] at SB SS S0
  have HS9 := hd hS
  clear hS
  go_wp2
  go_loopw [6, 13] (fun SV iv wr => ∃ k q : Nat, k ≤ E ∧ iv = .int .i64 k ∧ SV = .int .i64 (S k) ∧ wr = w1.drewN q) (fun _ iv _ => E - (intOf iv).toNat)
  case atStart => exact ⟨0, 0, by omega, rfl, by rw [S0.out], rfl⟩
  case round =>
    obtain ⟨k, q, hk, rfl, rfl, hw⟩ := hrel
    subst hw
    by_cases hlt : k < E
    · have k2 : (k : Int) < (E : Int) := Int.ofNat_lt.2 hlt
      obtain ⟨bb, ob, rfl, cx⟩ := HR1.out.int hlt
      have ss := SS.out k
      have sb := SB.out k hk
      have sb1 := SB.out (k + 1) (by omega)
      have ub := UB.out k
      generalize l.getD k 0 = x at *
      obtain ⟨y, hy⟩ : ∃ y, y = S k := ⟨_, rfl⟩
      rw [← hy] at ss sb ⊢
      obtain ⟨pr, hpr⟩ : ∃ pr, pr = x * x := ⟨_, rfl⟩
      rw [← hpr] at ss
      have hp0 : 0 ≤ pr := by rw [hpr]; exact Int.mul_nonneg ub.1 ub.1
      have hp1 : pr ≤ 180 * 180 := by rw [hpr]; exact Int.mul_le_mul (by omega) (by omega) ub.1 (by omega)
      have w1' : IntKind.i64.wrap (x * x) = pr := by rw [← hpr]; exact IntWalk.i64_in _ (by omega)
      have w2' : IntKind.i64.wrap (y + pr) = y + pr := IntWalk.i64_in _ (by omega)
      have HSS := hd ss
      clear ss sb sb1 ub hy hpr hp0 hp1
      go_wp2_with fail
      go_quiet (fail)
      clear cx w1' w2'
      go_wp2
      go_roundw
      case rel => exact ⟨k + 1, q + nq, by omega, by go_num, by rw [HSS.out], by first | rfl | rw [World.drewN_drewN]⟩
      case measure => simp [intOf]; omega
    · obtain rfl : E = k := by omega
      go_wp2
      go_ret
      exact ⟨by rw [HS9.out, HLl.out]; rfl, below_drewN HB1.out _⟩
end Go.Proofs.Ytdbojkanelmlkaa
