/- Shifts, the program's side: how many shifts there are behind a state, found again in a map. -/
import Derived.Test.YtmjdhignhdphpaaDoorProg
import Derived.Test.YtmjdhignhdphpaaDoorShiftP
namespace Go.Proofs.YtmjdhignhdphpaaDoor
open Go.RowKit Plain
set_option linter.unusedVariables false
set_option linter.unusedSimpArgs false
attribute [local go_sem ↓] Go.wp_at_zero Go.wp_at_succ

/-- the map at block b holds right counts alone -/
def Known (w : World) (L : ShiftLim) (S : Int) (b n : Nat) : Prop :=
  ∃ D : DataW Unit, w.ownsMap Tryd.prog 48 (plainElem Tryd.prog 2) b n D ∧
    ∀ (m : Nat) (sl wk rw ps : Int) (bg : Bool) kl, sl + m = S → keyOf Tryd.prog 48 (stV sl wk rw ps bg) = some kl → Go.Maps.has D kl = true → D.atKey kl (.lit (.int .i64 0)) = .lit (.int .i64 (cS L m (absS wk rw ps bg)))
theorem known_kept {w w' : World} {L : ShiftLim} {S : Int} {b n : Nat} {row : Option Nat} (h : Known w L S b n) (hg : w.grownBy w' row) (hne : some b ≠ row) : Known w' L S b n := by
  obtain ⟨D, ho, hk⟩ := h
  exact ⟨D, ho.kept hg hne, hk⟩
theorem known_below {w w' : World} {L : ShiftLim} {S : Int} {b n : Nat} (h : Known w L S b n) (hg : Below w.heap.size w w') : Known w' L S b n := known_kept h (below_all hg none) (by simp)
theorem known_lt {w : World} {L : ShiftLim} {S : Int} {b n : Nat} (h : Known w L S b n) : b < w.heap.size := by
  obtain ⟨D, ho, hk⟩ := h
  exact ho.lt
theorem known_mono {w : World} {L : ShiftLim} {S : Int} {b n n' : Nat} (h : Known w L S b n) (hn : n ≤ n') : Known w L S b n' := by
  obtain ⟨D, ho, hk⟩ := h
  exact ⟨D, ho.mono hn, hk⟩
theorem known_made (w : World) (L : ShiftLim) (S : Int) : Known (w.alloc (.map #[] 0)) L S w.heap.size 0 :=
  ⟨.map [], World.ownsMap_made w _ _ _, fun m sl wk rw ps bg kl _ _ h => by simp [Go.Maps.has] at h⟩
/-- the sum after k of the two choices -/
def partC (L : ShiftLim) (m : Nat) (s : ShiftPt) (k : Nat) : Int := if k = 0 then 0 else if k = 1 then (cS L m (s.off L) : Int) else (cS L (m + 1) s : Int)
theorem partC_2 (L : ShiftLim) (m : Nat) (s : ShiftPt) : partC L m s 2 = partC L m s 1 + (if s.may L then (cS L m s.on : Int) else 0) := by
  change (cS L (m + 1) s : Int) = (cS L m (s.off L) : Int) + _
  rw [cS]
  cases s.may L <;> simp
theorem partC_1 (L : ShiftLim) (m : Nat) (s : ShiftPt) : partC L m s 1 = cS L m (s.off L) := rfl
theorem known_put {w w' : World} {L : ShiftLim} {S : Int} {b n m : Nat} {D : DataW Unit} {sl wk rw ps : Int} {bg : Bool} {kl : Lit} (hown : w.ownsMap Tryd.prog 48 (plainElem Tryd.prog 2) b n D)
    (hD : ∀ (m : Nat) (sl wk rw ps : Int) (bg : Bool) kl, sl + m = S → keyOf Tryd.prog 48 (stV sl wk rw ps bg) = some kl → Go.Maps.has D kl = true → D.atKey kl (.lit (.int .i64 0)) = .lit (.int .i64 (cS L m (absS wk rw ps bg))))
    (hk : keyOf Tryd.prog 48 (stV sl wk rw ps bg) = some kl) (hm : sl + m = S) (h : w'.ownsMap Tryd.prog 48 (plainElem Tryd.prog 2) b (n + 1) (D.put kl (.lit (.int .i64 (cS L m (absS wk rw ps bg)))))) : Known w' L S b (n + 1) := by
  refine ⟨_, h, ?_⟩
  intro m1 sl1 wk1 rw1 ps1 bg1 kl1 e1 hk1 hh
  by_cases e : kl1 = kl
  · subst e
    have e2 := keySt.inj hk1 hk
    simp only [stV] at e2
    simp at e2
    obtain ⟨rfl, rfl, rfl, rfl, rfl⟩ := e2
    have : m1 = m := by omega
    subst this
    exact Go.Maps.atKey_put_same (hown.tidy keySt).isMap (keySt.key hk) _ _
  · rw [Go.Maps.has_put_other e] at hh
    rw [Go.Maps.atKey_put_other e]
    exact hD m1 sl1 wk1 rw1 ps1 bg1 kl1 e1 hk1 hh
theorem wf_30 {a : Int} (h : 0 ≤ a) (h2 : a ≤ 2 ^ 31) : (Lit.int .i64 a).wf = true := by
  simp only [Lit.wf, IntKind.min, IntKind.max, IntKind.signed, IntKind.bits, Bool.and_eq_true, decide_eq_true_eq, if_true]
  omega
/-- a block that is known cell by cell -/
def CBox (w : World) (g : Nat) (cs : Array Value) (t : TypeId) : Prop := w.heap[g]? = some (.cells cs t (0, 0))
theorem cbox_kept {w w' : World} {g : Nat} {cs : Array Value} {t : TypeId} {b : Nat} (h : CBox w g cs t) (hg : w.grownBy w' (some b)) (hne : g ≠ b) : CBox w' g cs t := by
  have hlt : g < w.heap.size := (Array.getElem?_eq_some_iff.1 h).1
  exact (hg.block g hlt (fun e => hne (Option.some.inj e))).trans h
theorem cbox_below {w w' : World} {g : Nat} {cs : Array Value} {t : TypeId} (h : CBox w g cs t) (hg : Below w.heap.size w w') : CBox w' g cs t := by
  have hlt : g < w.heap.size := (Array.getElem?_eq_some_iff.1 h).1
  exact (hg.block g hlt).trans h
theorem cbox_cell {w : World} {g : Nat} {cs : Array Value} {t : TypeId} (h : CBox w g cs t) (j : Nat) : w.cell? ⟨g, j, none⟩ = cs[j]? := cell_of_row w g j cs t _ h

set_option maxHeartbeats 4000000 in
set_option maxRecDepth 100000 in
theorem count_any (S least most row pause : Int) (b : Nat) (hS : 1 ≤ S ∧ S ≤ 24) (hl : 0 ≤ least ∧ least ≤ 24) (hm : 0 ≤ most ∧ most ≤ 24) (hr : 1 ≤ row ∧ row ≤ 24) (hp : 1 ≤ pause ∧ pause ≤ 24) (m : Nat) :
    ∀ (n : Nat) (sl wk rw ps : Int) (bg : Bool) (w : World), sl + m = S → 0 ≤ sl → 0 ≤ wk → ps ≤ pause → goodS ⟨least, most, row, pause⟩ wk rw ps bg → Known w ⟨least, most, row, pause⟩ S b n → n + 2 ^ m ≤ 2 ^ 30 →
    Calls Tryd.prog 24 #[.agg #[.int .i64 S, .int .i64 least, .int .i64 most, .int .i64 row, .int .i64 pause, .map (some b)], stV sl wk rw ps bg] w fun r w' =>
      r = .returned (.int .i64 (cS ⟨least, most, row, pause⟩ m (absS wk rw ps bg))) ∧ (∃ n', n' + 1 ≤ n + 2 ^ m ∧ Known w' ⟨least, most, row, pause⟩ S b n') ∧ w.grownBy w' (some b) := by
  induction m with
  | zero =>
    intro n sl wk rw ps bg w e1 h0 hwk hps hg hk hn
    have e2 : sl = S := by omega
    subst e2
    have HK := hd hk
    have HG := hd hg
    clear hk e1
    simp only [stV]
    by_cases hle : least ≤ wk
    · have HR := hd (show (cS ⟨least, most, row, pause⟩ 0 (absS wk rw ps bg) : Int) = 1 by simp [cS, absS, hle])
      go_enter Tryd.func24, Tryd.ntmps24
      go_wp2
      go_ret
      exact ⟨ret_i64 HR.out.symm, ⟨n, by omega, known_below HK.out (by go_grown)⟩, below_all (by go_grown) _⟩
    · have HR := hd (show (cS ⟨least, most, row, pause⟩ 0 (absS wk rw ps bg) : Int) = 0 by simp [cS, absS, hle])
      go_enter Tryd.func24, Tryd.ntmps24
      go_wp2
      go_ret
      exact ⟨ret_i64 HR.out.symm, ⟨n, by omega, known_below HK.out (by go_grown)⟩, below_all (by go_grown) _⟩
  | succ m ih =>
    intro n sl wk rw ps bg w e1 h0 hwk hps hg hk hn
    have hlt : sl < S := by omega
    have hne : ¬ sl = S := by omega
    obtain ⟨p0, g1, g2, g3, g4, g5⟩ := id hg
    have g1 : wk ≤ most := g1
    have g2 : rw ≤ row := g2
    clear g4 g5
    obtain ⟨kl, hkl⟩ := keyOf_st (bg := bg) (wf_small h0 (by omega)) (wf_small hwk (by omega)) (wf_small g3 (by omega)) (wf_small p0 (by omega))
    obtain ⟨D, hown, hD⟩ := id hk
    have hblt := hown.lt
    have HK := hd hk
    have HG := hd hg
    have HD := hd hD
    have E1 := hd e1
    have HN := hd hn
    have IH := hd ih
    clear hk hg hD e1 hn ih
    cases hhas : Go.Maps.has D kl with
    | true =>
      have HH := hd hhas
      have HAT := hd (HD.out (m + 1) sl wk rw ps bg kl E1.out hkl hhas)
      simp only [stV] at hkl ⊢
      go_enter Tryd.func24, Tryd.ntmps24
      go_wp2_with (at_lookup; refine wpList_lookup_own_ok_int _ rfl _ _ 43 rfl 48 2 .i64 keySt Tryd.underlying43 Tryd.underlying2 (by simp [go_sem]) b n D rfl (hown.kept (below_all (by go_grown) none) (by simp)) _ kl rfl (by exact hkl) ?_; intro c hat hwc; rw [HH.out])
      go_ret
      have e : (.int .i64 c : Lit) = .int .i64 (cS ⟨least, most, row, pause⟩ (m + 1) (absS wk rw ps bg)) := by
        have := hat.symm.trans HAT.out
        simpa using this
      refine ⟨ret_i64 (by simpa using e), ⟨n, ?_, known_below HK.out (by go_grown)⟩, below_all (by go_grown) _⟩
      have : 1 ≤ 2 ^ (m + 1) := Nat.one_le_two_pow
      omega
    | false =>
      have HH := hd hhas
      simp only [stV] at hkl ⊢
      have hP : 1 ≤ 2 ^ m := Nat.one_le_two_pow
      have HP2 := hd (Nat.pow_succ 2 m)
      obtain ⟨P, hPe⟩ : ∃ P, P = 2 ^ m := ⟨_, rfl⟩
      rw [← hPe] at hP
      have HPE := hd hPe
      clear hPe
      go_enter Tryd.func24, Tryd.ntmps24
      go_wp2_with (at_lookup; refine wpList_lookup_own_ok_int _ rfl _ _ 43 rfl 48 2 .i64 keySt Tryd.underlying43 Tryd.underlying2 (by simp [go_sem]) b n D rfl (hown.kept (below_all (by go_grown) none) (by simp)) _ kl rfl (by exact hkl) ?_; intro c hat hwc; rw [HH.out])
      go_loopw [7, 35] (fun s i wr => ∃ k : Nat, k ≤ 2 ∧ i = .int .i64 k ∧ s = .int .i64 (partC ⟨least, most, row, pause⟩ m (absS wk rw ps bg) k) ∧ (∃ n', n' + k ≤ n + k * P ∧ Known wr ⟨least, most, row, pause⟩ S b n') ∧ CBox wr w.heap.size #[.int .i64 S, .int .i64 least, .int .i64 most, .int .i64 row, .int .i64 pause, .map (some b)] 45 ∧ CBox wr (w.heap.size + 1) #[.int .i64 sl, .int .i64 wk, .int .i64 rw, .int .i64 ps, .bool bg] 48 ∧ CBox wr (w.heap.size + 2) #[.bool false, .bool true] 4 ∧ w.grownBy wr (some b)) (fun _ i _ => 2 - (intOf i).toNat)
      case atStart =>
        refine ⟨0, by omega, rfl, rfl, ⟨n, by omega, known_below HK.out (by go_grown)⟩, ?_, ?_, ?_, below_all (by go_grown) _⟩
        · unfold CBox; simp only [heap_alloc_get, World.size_alloc]; simp; try omega
        · unfold CBox; simp only [heap_alloc_get, World.size_alloc]; simp; try omega
        · unfold CBox; simp only [heap_alloc_get, World.size_alloc]; simp; try omega
      case round =>
        obtain ⟨k, hk2, rfl, rfl, ⟨n', hn', hkn⟩, B1, B2, B3, hgr⟩ := hrel
        have c0 := (cbox_cell B1 0).trans rfl
        have c1 := (cbox_cell B1 1).trans rfl
        have c2 := (cbox_cell B1 2).trans rfl
        have c3 := (cbox_cell B1 3).trans rfl
        have c4 := (cbox_cell B1 4).trans rfl
        have c5 := (cbox_cell B1 5).trans rfl
        have d0 := (cbox_cell B2 0).trans rfl
        have d1 := (cbox_cell B2 1).trans rfl
        have d2 := (cbox_cell B2 2).trans rfl
        have d3 := (cbox_cell B2 3).trans rfl
        have d4 := (cbox_cell B2 4).trans rfl
        have f0 := (cbox_cell B3 0).trans rfl
        have f1 := (cbox_cell B3 1).trans rfl
        have hsz : w.heap.size + 2 < wr.heap.size := (Array.getElem?_eq_some_iff.1 B3).1
        have HB1 := hd B1; have HB2 := hd B2; have HB3 := hd B3; have HGR := hd hgr; have HKN := hd hkn; have HN' := hd hn'
        clear B1 B2 B3 hgr hkn hn'
        have hP30 : P ≤ 2 ^ 30 := by have := HN.out; have := HP2.out; have := HPE.out; omega
        rcases (show k = 0 ∨ k = 1 ∨ k = 2 by omega) with rfl | rfl | rfl
        · have N := next_free S least most row pause sl wk rw ps bg hlt h0 hS.2 p0 (by omega) hp.1 hp.2
          simp only [stV] at N
          have NH := hd N
          clear N
          obtain ⟨v, hv⟩ : ∃ v : Int, v = cS ⟨least, most, row, pause⟩ m (absS wk 0 (min (ps + 1) pause) bg) := ⟨_, rfl⟩
          have hv1 : 0 ≤ v ∧ v ≤ 2 ^ 30 := by
            have := cS_le ⟨least, most, row, pause⟩ m (absS wk 0 (min (ps + 1) pause) bg)
            have := HPE.out
            omega
          have HVS := hd (show partC ⟨least, most, row, pause⟩ m (absS wk rw ps bg) 1 = v by rw [hv, partC_1, ← abs_off ⟨least, most, row, pause⟩ HG.out])
          have I := hd (fun w' (h : Known w' ⟨least, most, row, pause⟩ S b n') => IH.out n' (sl + 1) wk 0 (min (ps + 1) pause) bg w' (by have := E1.out; push_cast at this; omega) (by omega) hwk (by omega) (good_off ⟨least, most, row, pause⟩ hp.1 (show (0 : Int) ≤ row by omega) HG.out) h (by have := HN.out; have := HN'.out; have := HP2.out; have := HPE.out; omega))
          simp only [← hv, stV] at I
          clear hv
          obtain ⟨mp, hmp⟩ : ∃ mp, mp = min (ps + 1) pause := ⟨_, rfl⟩
          rw [← hmp] at I NH
          clear hmp
          rw [show partC ⟨least, most, row, pause⟩ m (absS wk rw ps bg) 0 = 0 from rfl]
          go_wp2_with (first | (go_at_call 17; refine (NH.out _).mono ?_; rintro e w1 ⟨rfl, hw1⟩; have HW1 := hd hw1; have hzz : w.heap.size < w1.heap.size := Nat.lt_of_lt_of_le (by omega) hw1.size; replace c0 := below_at hw1 c0; replace c1 := below_at hw1 c1; replace c2 := below_at hw1 c2; replace c3 := below_at hw1 c3; replace c4 := below_at hw1 c4; replace c5 := below_at hw1 c5; clear hw1) | (go_at_call 24; refine (I.out _ (known_below (known_below HKN.out HW1.out) (by go_grown))).mono ?_; rintro e w3 ⟨rfl, ⟨n2, hn2, hk3⟩, hg3⟩))
          have hg2 := World.grownBy.trans (below_all HW1.out (some b)) (World.grownBy.trans (World.grownBy_alloc w1 _ (some b)) hg3)
          go_roundw
          case rel => exact ⟨1, by omega, by go_num, by rw [HVS.out]; try go_num, ⟨n2, by have := HN'.out; have := HPE.out; omega, hk3⟩, cbox_kept HB1.out hg2 (by omega), cbox_kept HB2.out hg2 (by omega), cbox_kept HB3.out hg2 (by omega), HGR.out.trans hg2⟩
          case measure => simp [intOf]; try omega
        · obtain ⟨u, hu⟩ : ∃ u : Int, u = partC ⟨least, most, row, pause⟩ m (absS wk rw ps bg) 1 := ⟨_, rfl⟩
          have hu1 : 0 ≤ u ∧ u ≤ 2 ^ 30 := by
            have := cS_le ⟨least, most, row, pause⟩ m ((absS wk rw ps bg).off ⟨least, most, row, pause⟩)
            have := HPE.out
            rw [hu, partC_1]
            omega
          have HV0 := hd (partC_2 ⟨least, most, row, pause⟩ m (absS wk rw ps bg))
          rw [← hu] at HV0 ⊢
          clear hu
          have HM := hd (abs_may ⟨least, most, row, pause⟩ HG.out)
          cases hb : ((bg && (decide (rw = 0) && decide (ps < pause))) || (decide (rw = row) || decide (wk = most))) with
          | true =>
            have N := next_no S least most row pause sl wk rw ps bg hlt h0 hS.2 hb
            simp only [stV] at N
            have NH := hd N
            have hmf : (absS wk rw ps bg).may ⟨least, most, row, pause⟩ = false := by rw [HM.out]; simp only [hb]; rfl
            have HVS := hd (HV0.out.trans (by rw [hmf]; simp) : partC ⟨least, most, row, pause⟩ m (absS wk rw ps bg) 2 = u)
            clear N hb hmf HV0 HM
            go_wp2_with (go_at_call 17; refine (NH.out _).mono ?_; rintro e w1 ⟨rfl, hw1⟩; have HW1 := hd hw1; have hzz : w.heap.size < w1.heap.size := Nat.lt_of_lt_of_le (by omega) hw1.size; replace c0 := below_at hw1 c0; replace c1 := below_at hw1 c1; replace c2 := below_at hw1 c2; replace c3 := below_at hw1 c3; replace c4 := below_at hw1 c4; replace c5 := below_at hw1 c5; clear hw1)
            go_roundw
            case rel =>
              exact ⟨2, by omega, by go_num, by rw [HVS.out], ⟨n', by have := HN'.out; omega, known_below (known_below HKN.out HW1.out) (by go_grown)⟩, cbox_below (cbox_below HB1.out HW1.out) (by go_grown), cbox_below (cbox_below HB2.out HW1.out) (by go_grown), cbox_below (cbox_below HB3.out HW1.out) (by go_grown), HGR.out.trans ((below_all HW1.out _).trans (below_all (by go_grown) _))⟩
            case measure => simp [intOf]; try omega
          | false =>
            have N := next_yes S least most row pause sl wk rw ps bg hlt h0 hS.2 hwk (by omega) g3 (by omega) hb
            simp only [stV] at N
            have NH := hd N
            have hmt : (absS wk rw ps bg).may ⟨least, most, row, pause⟩ = true := by rw [HM.out]; simp only [hb]; rfl
            have hgo := good_on ⟨least, most, row, pause⟩ HG.out hmt
            obtain ⟨v, hv⟩ : ∃ v : Int, v = cS ⟨least, most, row, pause⟩ m (absS (wk + 1) (rw + 1) 0 true) := ⟨_, rfl⟩
            have hv1 : 0 ≤ v ∧ v ≤ 2 ^ 30 := by
              have := cS_le ⟨least, most, row, pause⟩ m (absS (wk + 1) (rw + 1) 0 true)
              have := HPE.out
              omega
            have HVS := hd (HV0.out.trans (by rw [hmt, if_pos rfl, ← abs_on wk rw ps bg, ← hv]) : partC ⟨least, most, row, pause⟩ m (absS wk rw ps bg) 2 = u + v)
            have I := hd (fun w' (h : Known w' ⟨least, most, row, pause⟩ S b n') => IH.out n' (sl + 1) (wk + 1) (rw + 1) 0 true w' (by have := E1.out; push_cast at this; omega) (by omega) (by omega) (by omega) hgo h (by have := HN.out; have := HN'.out; have := HP2.out; have := HPE.out; omega))
            simp only [← hv, stV] at I
            clear hv N hb hmt hgo HV0 HM
            go_wp2_with (first | (go_at_call 17; refine (NH.out _).mono ?_; rintro e w1 ⟨rfl, hw1⟩; have HW1 := hd hw1; have hzz : w.heap.size < w1.heap.size := Nat.lt_of_lt_of_le (by omega) hw1.size; replace c0 := below_at hw1 c0; replace c1 := below_at hw1 c1; replace c2 := below_at hw1 c2; replace c3 := below_at hw1 c3; replace c4 := below_at hw1 c4; replace c5 := below_at hw1 c5; clear hw1) | (go_at_call 24; refine (I.out _ (known_below (known_below HKN.out HW1.out) (by go_grown))).mono ?_; rintro e w3 ⟨rfl, ⟨n2, hn2, hk3⟩, hg3⟩))
            have hg2 := World.grownBy.trans (below_all HW1.out (some b)) (World.grownBy.trans (World.grownBy_alloc w1 _ (some b)) hg3)
            go_roundw
            case rel => exact ⟨2, by omega, by go_num, by rw [HVS.out]; try go_num, ⟨n2, by have := HN'.out; have := HPE.out; omega, hk3⟩, cbox_kept HB1.out hg2 (by omega), cbox_kept HB2.out hg2 (by omega), cbox_kept HB3.out hg2 (by omega), HGR.out.trans hg2⟩
            case measure => simp [intOf]; try omega
        · obtain ⟨u, hu⟩ : ∃ u : Int, u = partC ⟨least, most, row, pause⟩ m (absS wk rw ps bg) 2 := ⟨_, rfl⟩
          have hu1 : 0 ≤ u ∧ u ≤ 2 ^ 31 := by
            have := cS_le ⟨least, most, row, pause⟩ (m + 1) (absS wk rw ps bg)
            have := HP2.out
            have := HPE.out
            have e : u = (cS ⟨least, most, row, pause⟩ (m + 1) (absS wk rw ps bg) : Int) := hu
            omega
          have HU := hd (show u = (cS ⟨least, most, row, pause⟩ (m + 1) (absS wk rw ps bg) : Int) from hu)
          rw [← hu]
          clear hu
          have hval : plainElem (H := Unit) Tryd.prog 2 (.int .i64 u) = some (.lit (.int .i64 u), []) := plainElem_int Tryd.underlying2 (wf_30 hu1.1 hu1.2)
          obtain ⟨D', hown', hD'⟩ := HKN.out
          have HD' := hd hD'
          clear hD'
          have hmx : n' < maxLen := by have := HN'.out; have := HN.out; have := HP2.out; have := HPE.out; unfold maxLen; omega
          go_wp2_with (at_mapUpdate; refine wpList_mapUpdate_own _ rfl _ _ _ 43 rfl 48 2 keySt Tryd.underlying43 _ b n' D' rfl (by exact hown') hmx _ _ kl rfl rfl (by exact hkl) _ [] hval ?_; intro w2 hown2 hgrow2)
          go_ret
          rw [HU.out] at hown2
          exact ⟨ret_i64 HU.out, ⟨n' + 1, by have := HN'.out; have := HP2.out; have := HPE.out; omega, known_put hown' HD'.out hkl E1.out hown2⟩, HGR.out.trans hgrow2⟩
end Go.Proofs.YtmjdhignhdphpaaDoor
