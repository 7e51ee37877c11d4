/- Shifts, the reference's side: how many shifts there are, place by place. -/
import Derived.Test.YtldehffhpblliaaProg
import Derived.Test.YtldehffhpblliaaShiftA
import Derived.StillTailTactics
namespace Go.Proofs.Ytldehffhpblliaa
open Go.RowKit Plain
set_option linter.unusedVariables false
set_option linter.unusedSimpArgs false
attribute [local go_sem ↓] Go.wp_at_zero Go.wp_at_succ

theorem l06Start_any (w : World) : Calls Try.prog 46 #[] w fun r w' => r = .returned (.agg #[.int .i64 0, .int .i64 0, .int .i64 (-1)]) ∧ Below w.heap.size w w' := by
  go_enter Try.func46, Try.ntmps46
  go_wp2
  refine bodyPost_ret (by simp [results, Try.results46, go_sem] <;> rfl) rfl ⟨rfl, ?_⟩
  go_grown

theorem own_drew {w : World} {base size n : Nat} {e : TypeId} {v : Value} {xs : List Value} (h : w.ownsRow base e size v n xs) : w.drew.ownsRow base e size v n xs := h
/-- a slice of places and a slice of their counts -/
def PlRow (w : World) (B : Nat) (v u : Value) (l : List (ShiftPt × Int)) : Prop :=
  w.ownsRow B 78 3 v l.length (flatP l) ∧ w.ownsRow B 2 1 u l.length (cntP l) ∧ Dj v u
theorem plRow_below {w w' : World} {B : Nat} {v u : Value} {l : List (ShiftPt × Int)} (h : PlRow w B v u l) (hb : Below w.heap.size w w') : PlRow w' B v u l := ⟨own_below h.1 hb, own_below h.2.1 hb, h.2.2⟩
theorem plRow_mono {w : World} {B B' : Nat} {v u : Value} {l : List (ShiftPt × Int)} (h : PlRow w B v u l) (hb : B' ≤ B) : PlRow w B' v u l := ⟨own_mono h.1 hb, own_mono h.2.1 hb, h.2.2⟩
/-- the rows of one place, at work -/
def accC (L : ShiftLim) (l : List (ShiftPt × Int)) (k : Nat) (x : ShiftPt × Int) (j : Nat) : List (ShiftPt × Int) :=
  if j = 0 then someC L l k else if j = 1 then addC (someC L l k) (x.1.off L) x.2 else someC L l (k + 1)
theorem accC_2 (L : ShiftLim) {l : List (ShiftPt × Int)} {k : Nat} {x : ShiftPt × Int} (hk : l[k]? = some x) : accC L l k x 2 = if x.1.may L then addC (accC L l k x 1) x.1.on x.2 else accC L l k x 1 := by
  change someC L l (k + 1) = _
  rw [someC_succ L hk]
  rfl
theorem accC_ok {L : ShiftLim} {l : List (ShiftPt × Int)} (h : ∀ x ∈ l, 0 ≤ x.2) {k : Nat} {x : ShiftPt × Int} (hk : l[k]? = some x) (hx : x.2 ≤ 8388608) (ht : totC l ≤ 8388608) (hl : l.length ≤ 8388608) (j : Nat) (hj : j ≤ 1) : (accC L l k x j).length ≤ 33554432 ∧ ∀ y ∈ accC L l k x j, 0 ≤ y.2 ∧ y.2 ≤ 33554432 := by
  obtain ⟨s1, s2, s3⟩ := someC_ok L h k
  have t := totC_take h k
  have hx0 := h x (List.mem_of_getElem? hk)
  have hkl := (List.getElem?_eq_some_iff.1 hk).1
  match j, hj with
  | 0, _ =>
    refine ⟨by change (someC L l k).length ≤ _; omega, fun y hy => ⟨s1 y hy, ?_⟩⟩
    have := totC_get s1 y hy
    omega
  | 1, _ =>
    have a1 := addC_len (someC L l k) (x.1.off L) x.2
    have a2 := addC_pos s1 (x.1.off L) hx0
    have a3 := totC_add (someC L l k) (x.1.off L) x.2
    refine ⟨by change (addC (someC L l k) _ _).length ≤ _; omega, fun y hy => ⟨a2 y hy, ?_⟩⟩
    have := totC_get a2 y hy
    omega
theorem plRow_start (L : ShiftLim) (w : World) (B : Nat) (hB : B ≤ w.heap.size) : PlRow ((w.alloc (.cells #[.int .i64 0, .int .i64 0, .int .i64 (-1)] 78)).alloc (.cells #[.int .i64 1] 2)) B (.slice (some ⟨w.heap.size, 0, none⟩) 1 1) (.slice (some ⟨w.heap.size + 1, 0, none⟩) 1 1) (placesC L 0) := by
  have h1 := World.ownsRow_lit (base := B) (e := 78) (size := 3) w #[.int .i64 0, .int .i64 0, .int .i64 (-1)] 1 hB (by unfold maxLen; omega) rfl
  have h2 := World.ownsRow_lit (base := B) (e := 2) (size := 1) (w.alloc (.cells #[.int .i64 0, .int .i64 0, .int .i64 (-1)] 78)) #[.int .i64 1] 1 (by simp; omega) (by unfold maxLen; omega) rfl
  simp only [World.size_alloc] at h2
  refine ⟨h1.alloc _, h2, ?_⟩
  intro k hk he
  cases hk
  have := Option.some.inj he
  simp at this
theorem plRow_nil (w : World) : PlRow ((w.alloc (.cells #[] 78)).alloc (.cells #[] 2)) w.heap.size (.slice (some ⟨w.heap.size, 0, none⟩) 0 0) (.slice (some ⟨w.heap.size + 1, 0, none⟩) 0 0) [] := by
  have h1 := World.ownsRow_lit (base := w.heap.size) (e := 78) (size := 3) w #[] 0 (Nat.le_refl _) (by unfold maxLen; omega) rfl
  have h2 := World.ownsRow_lit (base := w.heap.size) (e := 2) (size := 1) (w.alloc (.cells #[] 78)) #[] 0 (by simp) (by unfold maxLen; omega) rfl
  simp only [World.size_alloc] at h2
  refine ⟨h1.alloc _, h2, ?_⟩
  intro k hk he
  cases hk
  have := Option.some.inj he
  simp at this
theorem Rd.p3x {w : World} {A : Option Addr} {n : Nat} {l : List (ShiftPt × Int)} (h : Rd w 3 A n (flatP l)) {k : Nat} (hk : k < n) {qa qb qc q : Int} (hq : l[k]? = some (⟨qa, qb, qc⟩, q)) : ∃ b off, A = some ⟨b, off, none⟩ ∧
    w.cell? ⟨b, off + k * 3, none⟩ = some (.int .i64 qa) ∧ w.cell? ⟨b, off + k * 3 + 1, none⟩ = some (.int .i64 qb) ∧ w.cell? ⟨b, off + k * 3 + 2, none⟩ = some (.int .i64 qc) := by
  obtain ⟨b, off, xa, xb, xc, x, hA, hx, c0, c1, c2⟩ := h.p3 hk
  have e := Option.some.inj (hx.out.symm.trans hq)
  simp only [Prod.mk.injEq, ShiftPt.mk.injEq] at e
  obtain ⟨⟨rfl, rfl, rfl⟩, rfl⟩ := e
  exact ⟨b, off, hA, c0, c1, c2⟩
set_option maxHeartbeats 4000000 in
set_option maxRecDepth 100000 in
theorem l06Count_any (g o : Nat) (S least most row pause : Int) (w : World) (hr : SRat w g o ⟨S, least, most, row, pause⟩) (hS : 1 ≤ S ∧ S ≤ 24) (hl : 0 ≤ least ∧ least ≤ 24) (hm : 0 ≤ most ∧ most ≤ 24) (hro : 1 ≤ row ∧ row ≤ 24) (hp : 1 ≤ pause ∧ pause ≤ 24) :
    Calls Try.prog 41 #[.pointer (some ⟨g, o, none⟩)] w fun r w' => r = .returned (.int .i64 (cS ⟨least, most, row, pause⟩ S.toNat ShiftPt.start)) ∧ Below w.heap.size w w' := by
  obtain ⟨L, hL⟩ : ∃ L : ShiftLim, L = ⟨least, most, row, pause⟩ := ⟨_, rfl⟩
  have PI := hd (fun n => places_in (L := L) (by rw [hL]; exact hm.1) (by rw [hL]; have := hro.1; show (0 : Int) ≤ row; omega) (by rw [hL]; have := hp.1; show (0 : Int) ≤ pause; omega) n)
  have HL := hd hL
  have HSR := hd hr
  have hgl := block_lt_of_cell hr.c0
  rw [← hL]
  clear hL hr
  obtain ⟨N, hN⟩ : ∃ N : Nat, (N : Int) = S := ⟨S.toNat, by omega⟩
  have hN2 : S.toNat = N := by omega
  rw [hN2]
  have hN3 : N ≤ 24 := by omega
  clear hN2
  have HN := hd hN
  subst hN
  have SRB := hd (fun w' (h : Below w.heap.size w w') => HSR.out.below h)
  go_enter Try.func41, Try.ntmps41
  go_wp2_with (go_at_call 46; refine (l06Start_any _).mono ?_; rintro e w1 ⟨rfl, hw1⟩; have HW1 := hd hw1; clear hw1)
  go_loopw [3, 4, 5] (fun v u i wr => ∃ k : Nat, k ≤ N ∧ i = .int .i64 k ∧ PlRow wr w.heap.size v u (placesC L k) ∧ Below w.heap.size w wr) (fun _ _ i _ => N - (intOf i).toNat)
  case atStart =>
    exact ⟨0, by omega, rfl, plRow_start L w1 _ HW1.out.size, below_tr (by go_grown) HW1.out⟩
  case round =>
    obtain ⟨wi, hwi⟩ : ∃ wi : World, wi = wr := ⟨_, rfl⟩
    subst hwi
    obtain ⟨i, hi, rfl, hpl, hb⟩ := hrel
    have PI2 := hd (PI.out i)
    have PO := hd (places_ok L i)
    have PL := hd (places_len L i)
    have PS := hd (show placesC L (i + 1) = nextC L (placesC L i) from rfl)
    have PA := hd (places_all L i)
    have hlx : (placesC L i).length ≤ 16777216 := by
      have := PL.out
      have : (2 : Nat) ^ i ≤ 2 ^ 24 := Nat.pow_le_pow_right (by omega) (by omega)
      omega
    have HP := hd hpl
    obtain ⟨hv, hu, _⟩ := hpl
    obtain ⟨A, cap, rfl, hcap, hrd, hA⟩ := own_rd hv (by unfold maxLen; omega)
    obtain ⟨A', cap', rfl, hcap', hrd', hA'⟩ := own_rd hu (by unfold maxLen; omega)
    clear hv hu hA hA'
    have HR := hd hrd; have HR' := hd hrd'; have HB := hd hb
    clear hrd hrd' hb
    obtain ⟨l, hle⟩ : ∃ l, l = placesC L i := ⟨_, rfl⟩
    rw [← hle] at PI2 PO PL PS PA HR HR' HP hcap hcap' hlx ⊢
    clear hle
    have hsr := SRB.out wi HB.out
    have g4 : wi.cell? ⟨g, o + 4, none⟩ = some (.int .i64 pause) := hsr.c4
    have g1 : wi.cell? ⟨g, o + 1, none⟩ = some (.int .i64 least) := hsr.c1
    have g0 : wi.cell? ⟨g, o, none⟩ = some (.int .i64 N) := hsr.c0
    have hgr : g < wi.heap.size := Nat.lt_of_lt_of_le hgl HB.out.size
    clear hsr
    obtain ⟨n, hn⟩ : ∃ n, n = l.length := ⟨_, rfl⟩
    rw [← hn] at HR HR' hcap hcap' hlx ⊢
    have Hn := hd hn
    clear hn
    by_cases hlt : i < N
    · have i2 : (i : Int) < (N : Int) := by omega
      have hn8 : n ≤ 8388608 := by
        have := PL.out
        have : (2 : Nat) ^ i ≤ 2 ^ 23 := Nat.pow_le_pow_right (by omega) (by omega)
        have := Hn.out
        omega
      have PT := hd (show totC l ≤ 8388608 by
        have := PO.out.2
        have : (2 : Int) ^ i ≤ 2 ^ 23 := by exact_mod_cast (Nat.pow_le_pow_right (show 0 < 2 by omega) (show i ≤ 23 by omega))
        omega)
      go_wp2
      go_loopw [6, 7, 8] (fun nx sm ix wq => ∃ k : Nat, k ≤ n ∧ ix = .int .i64 k ∧ PlRow wq wi.heap.size nx sm (someC L l k) ∧ Below wi.heap.size wi wq) (fun _ _ ix _ => n - (intOf ix).toNat)
      case atStart => exact ⟨0, by omega, rfl, plRow_nil wi, by go_grown⟩
      case round =>
        obtain ⟨w2, hw2⟩ : ∃ w2 : World, w2 = wr := ⟨_, rfl⟩
        subst hw2
        obtain ⟨k, hk, rfl, hrow, hbk⟩ := hrel
        by_cases hkt : k < n
        · obtain ⟨⟨⟨qa, qb, qc⟩, q⟩, hq⟩ : ∃ x, l[k]? = some x := ⟨_, List.getElem?_eq_getElem (by rw [← Hn.out]; exact hkt)⟩
          have hin := PI2.out _ (List.mem_of_getElem? hq)
          obtain ⟨z1, z2, z3, z4, z5, z6⟩ := hin
          simp only at z1 z2 z3 z4 z5 z6
          rw [HL.out] at z2 z4 z6
          simp only at z2 z4 z6
          have hqb : 0 ≤ q ∧ q ≤ 8388608 := ⟨PO.out.1 _ (List.mem_of_getElem? hq), by have := totC_get PO.out.1 _ (List.mem_of_getElem? hq); have := PT.out; omega⟩
          have HQ := hd hq
          have AOK := hd (accC_ok (L := L) PO.out.1 hq hqb.2 PT.out (by rw [← Hn.out]; exact hn8))
          have A2 := hd (accC_2 L hq)
          clear hq
          have HROW := hd hrow; have HBK := hd hbk
          clear hrow hbk
          go_wp2
          go_loopw [6, 7, 9] (fun nx sm ix w3 => ∃ j : Nat, j ≤ 2 ∧ ix = .int .i64 j ∧ PlRow w3 wi.heap.size nx sm (accC L l k (⟨qa, qb, qc⟩, q) j) ∧ Below wi.heap.size wi w3) (fun _ _ ix _ => 2 - (intOf ix).toNat)
          case atStart => exact ⟨0, by omega, rfl, HROW.out, HBK.out⟩
          case round =>
            clear HROW HBK
            obtain ⟨j, hj, rfl, hrow, hbk⟩ := hrel
            have HROW := hd hrow; have HBK := hd hbk
            have hsz3 := hbk.size
            obtain ⟨b, off, rfl, c0, c1, c2⟩ := (HR.out.below hbk).p3x hkt HQ.out
            obtain ⟨b', off', rfl, d0⟩ := cntP_int (HR'.out.below hbk) hkt HQ.out
            have g4' := below_at hbk g4
            have i1 : (0 : Int) ≤ (k : Int) := by omega
            have i3 : (k : Int) < (n : Int) := by omega
            clear hrow hbk
            rcases (show j = 0 ∨ j = 1 ∨ j = 2 by omega) with rfl | rfl | rfl
            · obtain ⟨fc, hfc⟩ : ∃ fc, fc = if 0 ≤ qc then qc + 1 else qc := ⟨_, rfl⟩
              have G := hd (goes_free g o qa qb qc z5 (by omega))
              rw [← hfc] at G
              have HOFF := hd (show ShiftPt.off L ⟨qa, qb, qc⟩ = ⟨qa, 0, min fc pause⟩ by
                rw [HL.out, ShiftPt.off, hfc]
                simp only
                congr 1
                split <;> omega)
              clear hfc
              go_wp2_with (go_at_call 57; refine (G.out _).mono ?_; rintro e w4 ⟨rfl, hw4⟩; have HW4 := hd hw4; clear hw4)
              obtain ⟨w5, hw5⟩ : ∃ w5, w5 = w4.alloc (.cells #[.int .i64 qa, .int .i64 0, .int .i64 fc] 78) := ⟨_, rfl⟩
              rw [← hw5]
              have hx5 : w5.heap[w4.heap.size]? = some (.cells #[.int .i64 qa, .int .i64 0, .int .i64 fc] 78 (0, 0)) := by rw [hw5]; exact heap_alloc_new w4 _
              have hb45 : Below w4.heap.size w4 w5 := by rw [hw5]; exact (Below.refl _ _).alloc (Nat.le_refl _) _
              have hb5 : Below wr.heap.size wr w5 := below_tr hb45 HW4.out
              clear hw5
              have x2 : w5.cell? ⟨w4.heap.size, 2, none⟩ = some (.int .i64 fc) := (cell_of_row _ _ 2 _ _ _ hx5).trans rfl
              have g5 := below_at hb5 g4'
              have HX5 := hd hx5; have HB5 := hd hb5
              clear hx5 hb45 hb5
              obtain ⟨gb, hgb⟩ : ∃ gb, gb = w4.heap.size := ⟨_, rfl⟩
              rw [← hgb] at x2 ⊢
              have HGB := hd hgb
              have hgb2 : wr.heap.size ≤ gb := by rw [hgb]; exact HW4.out.size
              clear hgb
              go_still_tail 8, (by kernel_rfl)
              still_call ((l00Min_any _ _ _).mono fun _ _ h => ⟨h.1, h.2.symm⟩)
              repeat still_step
              refine wpStill_nil ?_
              change wpList _ _ _ _ _ w5.drew
              have hx5 : w5.drew.heap[gb]? = some (.cells #[.int .i64 qa, .int .i64 0, .int .i64 fc] 78 (0, 0)) := by rw [HGB.out]; exact HX5.out
              go_wp2_with ((with_reducible refine wpList_store_box _ gb _ _ hx5 size_int 2 (.int .i64 (min fc pause)) ?_ ?_ ?_ ?_ ?_); exact rfl; exact rfl; exact rfl; exact (show 2 < 3 by decide); intro w6 hb6 hg6)
              have y0 : w6.cell? ⟨gb, 0, none⟩ = some (.int .i64 qa) := (cell_of_row _ _ 0 _ _ _ hb6).trans rfl
              have y1 : w6.cell? ⟨gb, 1, none⟩ = some (.int .i64 0) := (cell_of_row _ _ 1 _ _ _ hb6).trans rfl
              have y2 : w6.cell? ⟨gb, 2, none⟩ = some (.int .i64 (min fc pause)) := (cell_of_row _ _ 2 _ _ _ hb6).trans rfl
              have hbb : Below wr.heap.size wr w6 := (HB5.out.drew).grown hg6 HB5.out.size (fun k hk => by cases hk; exact hgb2)
              have d6 := below_at hbb d0
              have HBB := hd hbb
              have hs6 := hbb.size
              have HROW6 := hd (plRow_below HROW.out hbb)
              clear hbb hb6 hg6 hx5
              go_wp2
              obtain ⟨mz, hmz⟩ : ∃ mz, mz = min fc pause := ⟨_, rfl⟩
              have HMZ := hd hmz
              rw [← hmz] at y2 ⊢
              clear hmz
              have ADD := hd (fun (w' : World) (hs : wi.heap.size ≤ w'.heap.size) (hr : PlRow w' wi.heap.size u6 u7 (accC L l k (⟨qa, qb, qc⟩, q) 0)) => l06Add_any u6 u7 _ qa 0 mz q wi.heap.size w' hs hr.1 hr.2.1 hr.2.2 (AOK.out _ (by omega)).1 ⟨hqb.1, by omega⟩ (AOK.out _ (by omega)).2)
              go_region_with (go_at_call 59; refine (ADD.out _ ?_ ?_).mono ?_; exact Nat.le_trans hsz3 hs6; exact HROW6.out; rintro e w7 ⟨v', u', rfl, r1, r2, r3, r4⟩; have RR := hd (And.intro r1 (And.intro r2 r3)); clear r1 r2 r3)
              all_goals
                go_wp2
                have hb7 : Below wi.heap.size wi w7 := HBK.out.trans (((HBB.out.mono hsz3).drew).trans r4)
                go_roundw
                case rel => exact ⟨1, by omega, by go_num, by rw [← HMZ.out] at HOFF; exact (show PlRow w7 wi.heap.size v' u' (addC (someC L l k) (ShiftPt.off L ⟨qa, qb, qc⟩) q) by rw [HOFF.out]; exact RR.out), hb7⟩
                case measure => simp [intOf]; try omega
            · have hsrr := SRB.out wr (below_tr HBK.out HB.out)
              have HSW := hd hsrr
              clear hsrr
              cases hmay : (⟨qa, qb, qc⟩ : ShiftPt).may L with
              | false =>
                obtain ⟨xa, xb, xc, G⟩ : ∃ xa xb xc, Hid (Calls Try.prog 57 #[.pointer (some ⟨g, o, none⟩), .agg #[.int .i64 qa, .int .i64 qb, .int .i64 qc], .bool true] wr fun r w' => r = .returned (.tuple #[.agg #[.int .i64 xa, .int .i64 xb, .int .i64 xc], .bool false]) ∧ Below wr.heap.size wr w') := by
                  by_cases q0 : 0 < qc ∧ qc < pause
                  · exact ⟨qa, qb, qc, hd (goes_no g o _ qa qb qc wr HSW.out q0.1 q0.2)⟩
                  · have e := goes_yes g o _ qa qb qc wr HSW.out z1 (by omega) z3 (by omega) (by rw [Bool.and_eq_false_iff]; simp only [decide_eq_false_iff_not]; omega)
                    have e2 : (decide (qa + 1 ≤ most) && decide (qb + 1 ≤ row)) = false := by
                      rw [Bool.eq_false_iff]
                      intro e3
                      simp only [Bool.and_eq_true, decide_eq_true_eq] at e3
                      have := (may_iff (L := L) (p := ⟨qa, qb, qc⟩)).2 (by rw [HL.out]; exact ⟨q0, e3⟩)
                      rw [this] at hmay
                      cases hmay
                    simp only [e2] at e
                    exact ⟨_, _, _, hd e⟩
                have HM := hd hmay
                clear hmay
                go_wp2_with (go_at_call 57; refine G.out.mono ?_; rintro e w4 ⟨rfl, hw4⟩; have HW4 := hd hw4; clear hw4)
                obtain ⟨w5, hw5⟩ : ∃ w5, w5 = w4.alloc (.cells #[.int .i64 xa, .int .i64 xb, .int .i64 xc] 78) := ⟨_, rfl⟩
                rw [← hw5]
                have hx5 : w5.heap[w4.heap.size]? = some (.cells #[.int .i64 xa, .int .i64 xb, .int .i64 xc] 78 (0, 0)) := by rw [hw5]; exact heap_alloc_new w4 _
                have hb45 : Below w4.heap.size w4 w5 := by rw [hw5]; exact (Below.refl _ _).alloc (Nat.le_refl _) _
                have hb5 : Below wr.heap.size wr w5 := below_tr hb45 HW4.out
                clear hw5
                have x2 : w5.cell? ⟨w4.heap.size, 2, none⟩ = some (.int .i64 xc) := (cell_of_row _ _ 2 _ _ _ hx5).trans rfl
                have g5 := below_at hb5 g4'
                have HX5 := hd hx5; have HB5 := hd hb5
                clear hx5 hb45 hb5
                obtain ⟨gb, hgb⟩ : ∃ gb, gb = w4.heap.size := ⟨_, rfl⟩
                rw [← hgb] at x2 ⊢
                have HGB := hd hgb
                have hgb2 : wr.heap.size ≤ gb := by rw [hgb]; exact HW4.out.size
                clear hgb
                go_still_tail 8, (by kernel_rfl)
                still_call ((l00Min_any _ _ _).mono fun _ _ h => ⟨h.1, h.2.symm⟩)
                repeat still_step
                refine wpStill_nil ?_
                change wpList _ _ _ _ _ w5.drew
                have hx5 : w5.drew.heap[gb]? = some (.cells #[.int .i64 xa, .int .i64 xb, .int .i64 xc] 78 (0, 0)) := by rw [HGB.out]; exact HX5.out
                go_wp2_with ((with_reducible refine wpList_store_box _ gb _ _ hx5 size_int 2 (.int .i64 (min xc pause)) ?_ ?_ ?_ ?_ ?_); exact rfl; exact rfl; exact rfl; exact (show 2 < 3 by decide); intro w6 hb6 hg6)
                have hbb : Below wr.heap.size wr w6 := (HB5.out.drew).grown hg6 HB5.out.size (fun k hk => by cases hk; exact hgb2)
                go_wp2
                go_roundw
                case rel => exact ⟨2, by omega, by go_num, by rw [A2.out]; simp only [HM.out]; exact plRow_below HROW.out hbb, HBK.out.trans (hbb.mono hsz3)⟩
                case measure => simp [intOf]; try omega
              | true =>
                obtain ⟨q0, q1, q2⟩ := may_iff.1 hmay
                rw [HL.out] at q0 q1 q2
                have e := goes_yes g o _ qa qb qc wr HSW.out z1 (by omega) z3 (by omega) (by rw [Bool.and_eq_false_iff]; simp only [decide_eq_false_iff_not]; simp only at q0; omega)
                have e2 : (decide (qa + 1 ≤ most) && decide (qb + 1 ≤ row)) = true := by
                  simp only [Bool.and_eq_true, decide_eq_true_eq]
                  exact ⟨q1, q2⟩
                simp only [e2] at e
                have G := hd e
                have HM := hd hmay
                clear hmay e e2 q0 q1 q2
                obtain ⟨xa, hxa⟩ : ∃ xa, xa = qa + 1 := ⟨_, rfl⟩
                obtain ⟨xb, hxb⟩ : ∃ xb, xb = qb + 1 := ⟨_, rfl⟩
                have HON := hd (show (⟨qa, qb, qc⟩ : ShiftPt).on = ⟨xa, xb, 0⟩ by rw [hxa, hxb]; rfl)
                rw [← hxa, ← hxb] at G
                clear hxa hxb
                go_wp2_with (go_at_call 57; refine G.out.mono ?_; rintro e w4 ⟨rfl, hw4⟩; have HW4 := hd hw4; clear hw4)
                obtain ⟨w5, hw5⟩ : ∃ w5, w5 = w4.alloc (.cells #[.int .i64 xa, .int .i64 xb, .int .i64 0] 78) := ⟨_, rfl⟩
                rw [← hw5]
                have hx5 : w5.heap[w4.heap.size]? = some (.cells #[.int .i64 xa, .int .i64 xb, .int .i64 0] 78 (0, 0)) := by rw [hw5]; exact heap_alloc_new w4 _
                have hb45 : Below w4.heap.size w4 w5 := by rw [hw5]; exact (Below.refl _ _).alloc (Nat.le_refl _) _
                have hb5 : Below wr.heap.size wr w5 := below_tr hb45 HW4.out
                clear hw5
                have x2 : w5.cell? ⟨w4.heap.size, 2, none⟩ = some (.int .i64 0) := (cell_of_row _ _ 2 _ _ _ hx5).trans rfl
                have g5 := below_at hb5 g4'
                have HX5 := hd hx5; have HB5 := hd hb5
                clear hx5 hb45 hb5
                obtain ⟨gb, hgb⟩ : ∃ gb, gb = w4.heap.size := ⟨_, rfl⟩
                rw [← hgb] at x2 ⊢
                have HGB := hd hgb
                have hgb2 : wr.heap.size ≤ gb := by rw [hgb]; exact HW4.out.size
                clear hgb
                go_still_tail 8, (by kernel_rfl)
                still_call ((l00Min_any _ _ _).mono fun _ _ h => ⟨h.1, h.2.symm⟩)
                repeat still_step
                refine wpStill_nil ?_
                change wpList _ _ _ _ _ w5.drew
                have hx5 : w5.drew.heap[gb]? = some (.cells #[.int .i64 xa, .int .i64 xb, .int .i64 0] 78 (0, 0)) := by rw [HGB.out]; exact HX5.out
                go_wp2_with ((with_reducible refine wpList_store_box _ gb _ _ hx5 size_int 2 (.int .i64 (min 0 pause)) ?_ ?_ ?_ ?_ ?_); exact rfl; exact rfl; exact rfl; exact (show 2 < 3 by decide); intro w6 hb6 hg6)
                have y0 : w6.cell? ⟨gb, 0, none⟩ = some (.int .i64 xa) := (cell_of_row _ _ 0 _ _ _ hb6).trans rfl
                have y1 : w6.cell? ⟨gb, 1, none⟩ = some (.int .i64 xb) := (cell_of_row _ _ 1 _ _ _ hb6).trans rfl
                have y2 : w6.cell? ⟨gb, 2, none⟩ = some (.int .i64 (min 0 pause)) := (cell_of_row _ _ 2 _ _ _ hb6).trans rfl
                have hbb : Below wr.heap.size wr w6 := (HB5.out.drew).grown hg6 HB5.out.size (fun k hk => by cases hk; exact hgb2)
                have d6 := below_at hbb d0
                have HBB := hd hbb
                have hs6 := hbb.size
                have HROW6 := hd (plRow_below HROW.out hbb)
                clear hbb hb6 hg6 hx5
                go_wp2
                obtain ⟨mz, hmz⟩ : ∃ mz, mz = min 0 pause := ⟨_, rfl⟩
                have HMZ := hd hmz
                rw [← hmz] at y2 ⊢
                clear hmz
                have ADD := hd (fun (w' : World) (hs : wi.heap.size ≤ w'.heap.size) (hr : PlRow w' wi.heap.size u6 u7 (accC L l k (⟨qa, qb, qc⟩, q) 1)) => l06Add_any u6 u7 _ xa xb mz q wi.heap.size w' hs hr.1 hr.2.1 hr.2.2 (AOK.out _ (by omega)).1 ⟨hqb.1, by omega⟩ (AOK.out _ (by omega)).2)
                go_region_with (go_at_call 59; refine (ADD.out _ ?_ ?_).mono ?_; exact Nat.le_trans hsz3 hs6; exact HROW6.out; rintro e w7 ⟨v', u', rfl, r1, r2, r3, r4⟩; have RR := hd (And.intro r1 (And.intro r2 r3)); clear r1 r2 r3)
                all_goals
                  go_wp2
                  have hb7 : Below wi.heap.size wi w7 := HBK.out.trans (((HBB.out.mono hsz3).drew).trans r4)
                  go_roundw
                  case rel =>
                    refine ⟨2, by omega, by go_num, ?_, hb7⟩
                    rw [A2.out]
                    simp only [HM.out, if_true]
                    have e : mz = 0 := by rw [HMZ.out]; have := hp.1; omega
                    rw [HON.out, ← e]
                    exact RR.out
                  case measure => simp [intOf]; try omega
            · go_wp2
              go_roundw
              case rel => exact ⟨k + 1, by omega, by go_num, HROW.out, HBK.out⟩
              case measure => simp [intOf]; try omega
        · have e : k = n := by omega
          subst e
          have HROW := hd hrow; have HBK := hd hbk
          clear hrow hbk
          go_wp2
          go_roundw
          case rel => exact ⟨i + 1, by omega, by go_num, by rw [PS.out, ← someC_all, ← Hn.out]; exact plRow_mono HROW.out HB.out.size, below_tr HBK.out HB.out⟩
          case measure => simp [intOf]; try omega
    · have e : i = N := by omega
      subst e
      go_wp2
      go_loopw [14, 15] (fun sm ix wq => ∃ k : Nat, k ≤ n ∧ ix = .int .i64 k ∧ sm = .int .i64 (allC L l k) ∧ ∃ m, wq = wi.drewN m) (fun _ ix _ => n - (intOf ix).toNat)
      case atStart => exact ⟨0, by omega, rfl, rfl, 0, rfl⟩
      case round =>
        obtain ⟨k, hk, rfl, rfl, m, rfl⟩ := hrel
        have hab := allC_bd PO.out.1 (L := L) k
        have htt := totC_take PO.out.1 k
        have ht24 : totC l ≤ 16777216 := by
          have := PO.out.2
          have : (2 : Int) ^ i ≤ 2 ^ 24 := by exact_mod_cast (Nat.pow_le_pow_right (show 0 < 2 by omega) (show i ≤ 24 by omega))
          omega
        have ha1 := hab.1
        have ha2 : allC L l k ≤ 16777216 := by omega
        clear hab htt
        by_cases hkt : k < n
        · obtain ⟨⟨⟨qa, qb, qc⟩, q⟩, hq⟩ : ∃ x, l[k]? = some x := ⟨_, List.getElem?_eq_getElem (by rw [← Hn.out]; exact hkt)⟩
          have hqb : 0 ≤ q ∧ q ≤ 16777216 := ⟨PO.out.1 _ (List.mem_of_getElem? hq), by have := totC_get PO.out.1 _ (List.mem_of_getElem? hq); omega⟩
          have hq1 := hqb.1; have hq2 := hqb.2
          have HS := hd (allC_succ (L := L) hq)
          have HLL := hd (show L.least = least by rw [HL.out])
          obtain ⟨b, off, rfl, c0, c1, c2⟩ := HR.out.p3x hkt hq
          obtain ⟨b', off', rfl, d0⟩ := cntP_int HR'.out hkt hq
          have i1 : (0 : Int) ≤ (k : Int) := by omega
          have i3 : (k : Int) < (n : Int) := by omega
          obtain ⟨y, hy⟩ : ∃ y, y = allC L l k := ⟨_, rfl⟩
          rw [← hy] at HS ha1 ha2 ⊢
          clear hq hy hqb
          by_cases hle : least ≤ qa
          · have HV := hd (HS.out.trans (by rw [HLL.out, if_pos hle] : _ = y + q))
            go_wp2
            go_quiet (fail)
            go_wp2
            go_roundw
            case rel => exact ⟨k + 1, by omega, by go_num, by rw [HV.out], by first | exact ⟨_, rfl⟩ | exact drew2 _ _ _⟩
            case measure => simp [intOf]; try omega
          · have HV := hd (HS.out.trans (by rw [HLL.out, if_neg hle, Int.add_zero] : _ = y))
            go_wp2
            go_quiet (fail)
            go_wp2
            go_roundw
            case rel => exact ⟨k + 1, by omega, by go_num, by rw [HV.out], by first | exact ⟨_, rfl⟩ | exact drew2 _ _ _⟩
            case measure => simp [intOf]; try omega
        · have e : k = n := by omega
          subst e
          have HV := hd (show allC L l k = (cS L i ShiftPt.start : Int) by rw [← PA.out, allC, Hn.out, List.take_length])
          go_wp2
          go_ret
          exact ⟨ret_i64 HV.out, below_drewN HB.out _⟩
end Go.Proofs.Ytldehffhpblliaa
