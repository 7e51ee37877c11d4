/- PhasesOf of the program and of the reference: contracts. -/
import Derived.Test.YtdhmnajkmeclnaaProg
import Derived.Test.YtdhmnajkmeclnaaPhasI
import Derived.Test.YtdhmnajkmeclnaaCxSlice
import Derived.Test.YtdhmnajkmeclnaaPeriods
namespace Go.Proofs.Ytdhmnajkmeclnaa
open Go.RowKit Plain
open Ieee
set_option linter.unusedVariables false
set_option linter.unusedSimpArgs false
attribute [local go_sem ↓] Go.wp_at_zero Go.wp_at_succ
def phAt (p t : Int) : Nat × Nat := (rePh t.toNat p.toNat, imPh t.toNat p.toNat)
def phasesM (xs : List Int) (p : Int) : List (Nat × Nat) × Bool := if tableB xs p then (xs.map (phAt p), true) else ([], false)
def PhOut (m : List (Nat × Nat) × Bool) (w : World) : Ending → World → Prop := OutL 37 1 m.1.length (m.1.map vc) (fun u => .tuple #[u, .bool m.2]) w
theorem phases_no {xs : List Int} {p : Int} (h : tableB xs p = false) : phasesM xs p = ([], false) := by rw [phasesM, h]; rfl
theorem phases_yes {xs : List Int} {p : Int} (h : tableB xs p = true) : phasesM xs p = (xs.map (phAt p), true) := by rw [phasesM, h]; rfl
theorem table_facts {xs : List Int} {p : Int} (h : tableB xs p = true) : 1 ≤ p ∧ p ≤ 60 ∧ 1 ≤ xs.length ∧ xs.length ≤ 12 ∧ ∀ x ∈ xs, 0 ≤ x ∧ x < p := by
  rw [tableB, Bool.and_eq_true] at h
  obtain ⟨h1, h2⟩ := h
  obtain ⟨p1, p2⟩ := inR_iff.1 h1
  simp only [manyIn, Bool.and_eq_true, decide_eq_true_eq, List.all_eq_true] at h2
  obtain ⟨l1, l2, h3⟩ := h2
  exact ⟨p1, p2, by omega, by omega, fun x hx => by have := inR_iff.1 (h3 x hx); omega⟩
theorem take_snoc {xs : List Int} {k : Nat} (hk : k < xs.length) (p : Int) : (xs.take (k + 1)).map (phAt p) = (xs.take k).map (phAt p) ++ [phAt p (xs.getD k 0)] := by
  rw [List.take_add_one, List.map_append, List.getElem?_eq_getElem hk, List.getD_eq_getElem?_getD, List.getElem?_eq_getElem hk]
  rfl
/-- what one time gives -/
theorem time_at {p t : Nat} (hp : p ≤ 60) (ht : t < p) : ∃ f0, floatBits .quo .f64 (floatOfInt .f64 (t : Int)) (floatOfInt .f64 (p : Int)) = some f0 ∧ ∃ F q, Turns t p f0 F q ∧ rePh t p = narW (cosQ F q) ∧ imPh t p = narW (sinQ F q) := by
  obtain ⟨f0, F, q, h⟩ := turns_at hp ht
  have e : ∀ n : Nat, floatOfInt .f64 (n : Int) = double.nearest false n 0 := fun n => by
    show double.write (.number (decide ((n : Int) < 0)) (n : Int).natAbs 0) = _
    rw [decide_eq_false (by omega), Int.natAbs_natCast]
    rfl
  obtain ⟨e1, e2⟩ := ph_of h
  refine ⟨f0, ?_, F, q, h, e1, e2⟩
  rw [e, e]
  exact h.quo
set_option maxHeartbeats 4000000 in
set_option maxRecDepth 100000 in
theorem implPhases_any (v0 : Value) (xs : List Int) (p : Int) (w : World) (s0 : Sl w 1 v0 xs.length (xs.map vi)) : Calls Try.prog 7 #[v0, .int .i64 p] w (PhOut (phasesM xs p) w) := by
  have HT0 := areTableTimes_any v0 xs p w s0
  obtain ⟨A, cap, rfl, hcap, hr⟩ := s0
  have hm := hr.2.1
  unfold maxLen at hm
  cases h1 : tableB xs p with
  | false =>
    have H := hd (phases_no h1)
    have HT := hd (h1 ▸ HT0)
    clear HT0 h1
    go_enter Try.func7, Try.ntmps7
    go_wp2_with (go_at_call 18; refine HT.out.mono ?_; rintro e w' ⟨rfl, hw⟩; subst hw)
    go_ret2
    rw [PhOut, H.out]
    exact ⟨_, rfl, World.ownsRow_nil _ _ _ _, Below.refl _ _⟩
  | true =>
    have H := hd (phases_yes h1)
    have HT := hd (h1 ▸ HT0)
    obtain ⟨p1, p2, l1, l2, hall⟩ := table_facts h1
    have HL := hd (rfl : xs.length = xs.length)
    have HX := hd (fun k (hk : k < xs.length) => show 0 ≤ xs.getD k 0 ∧ xs.getD k 0 < p by
      rw [List.getD_eq_getElem?_getD, List.getElem?_eq_getElem hk]
      exact hall _ (List.getElem_mem hk))
    have HK := hd (fun k (hk : k < xs.length) => take_snoc hk p)
    have HE := hd (show (xs.take xs.length).map (phAt p) = xs.map (phAt p) by rw [List.take_length])
    clear HT0 h1 hall
    generalize hn : xs.length = nn at *
    have Hn := hd hn
    clear hn HL
    go_enter Try.func7, Try.ntmps7
    go_wp2_with (go_at_call 18; refine HT.out.mono ?_; rintro e w' ⟨rfl, hw⟩; subst hw)
    go_loopw [6, 16] (fun v i wr => ∃ k : Nat, k ≤ nn ∧ i = .int .i64 k ∧ wr.ownsRow w.heap.size 37 1 v k (((xs.take k).map (phAt p)).map vc) ∧ Below w.heap.size w wr) (fun _ i _ => nn - (intOf i).toNat)
    case atStart =>
      have hstart := World.ownsRow_made (base := w.heap.size) (size := 1) w #[] 0 (Nat.le_refl _) (by unfold maxLen; omega) rfl (e := 37)
      exact ⟨0, by omega, rfl, by simpa using hstart, (Below.refl _ _).alloc (Nat.le_refl _) _⟩
    case round =>
      clear HT
      obtain ⟨k, hk, rfl, ho, hB⟩ := hrel
      by_cases hlt : k < nn
      · obtain ⟨b', off, rfl, hc⟩ := (hr.below hB).int hlt
        obtain ⟨g1, g2⟩ := HX.out k hlt
        have hst := HK.out k hlt
        clear HX HK HE H hr
        generalize xs.getD k 0 = t at *
        obtain ⟨T, rfl⟩ := Int.eq_ofNat_of_zero_le g1
        obtain ⟨P, rfl⟩ := Int.eq_ofNat_of_zero_le (show 0 ≤ p by omega)
        obtain ⟨f0, hq, F, q, hTu, e1, e2⟩ := time_at (p := P) (t := T) (by omega) (by omega)
        have HP := hd (fun w => phasor_any hTu w)
        rw [← e1, ← e2] at HP
        have Q1 := fun w => run_float_arith (P := Try.prog) w .quo 36 .f64 _ _ _ hq
        have eA : phAt (P : Int) (T : Int) = (rePh T P, imPh T P) := rfl
        rw [eA] at hst
        have HST := hd hst
        have HO := hd ho; have HB := hd hB
        clear hst eA e1 e2 hTu hq ho hB F q
        generalize rePh T P = re at *
        generalize imPh T P = im at *
        go_wp2_with (first
          | (go_at_call 19; refine (HP.out _).mono ?_; rintro e w' ⟨rfl, hw⟩; subst hw)
          | (at_builtin; go_must (refine wpList_app_complex _ _ _ rfl _ _ rfl w.heap.size k _ _ rfl (by first | exact HO.out | exact own_more HO.out) rfl _ rfl (by simp) (by omega) (Nat.le_trans HB.out.size (by simp)) ?_); intro v' w1 ho1 hg1 hap))
        go_roundw
        case rel =>
          refine ⟨k + 1, by omega, by go_num, ?_, below_row hg1 HB.out (own_row HO.out (Nat.le_refl _))⟩
          rw [HST.out, List.map_append]; exact ho1
        case measure => simp [intOf]; omega
      · have e : k = nn := by omega
        subst e
        have HO := hd ho; have HB := hd hB
        clear ho hB hr
        go_wp2
        go_ret2
        rw [PhOut, H.out]
        refine ⟨_, rfl, ?_, HB.out⟩
        have e : (xs.map (phAt p)).length = k := by rw [List.length_map]; exact Hn.out
        show World.ownsRow _ _ _ _ _ (xs.map (phAt p)).length ((xs.map (phAt p)).map vc)
        rw [e, ← HE.out]
        exact HO.out
set_option maxHeartbeats 4000000 in
set_option maxRecDepth 100000 in
theorem specPhases_any (v0 : Value) (xs : List Int) (p : Int) (w : World) (s0 : Sl w 1 v0 xs.length (xs.map vi)) : Calls Try.prog 5 #[v0, .int .i64 p] w (PhOut (phasesM xs p) w) := by
  have HT0 := l05Table_any v0 xs p w s0
  obtain ⟨A, cap, rfl, hcap, hr⟩ := s0
  have hm := hr.2.1
  unfold maxLen at hm
  cases h1 : tableB xs p with
  | false =>
    have H := hd (phases_no h1)
    have HT := hd (h1 ▸ HT0)
    clear HT0 h1
    go_enter Try.func5, Try.ntmps5
    go_wp2_with (go_at_call 16; refine HT.out.mono ?_; rintro e w' ⟨rfl, hw⟩; subst hw)
    go_ret2
    rw [PhOut, H.out]
    exact ⟨_, rfl, World.ownsRow_nil _ _ _ _, Below.refl _ _⟩
  | true =>
    have H := hd (phases_yes h1)
    have HT := hd (h1 ▸ HT0)
    obtain ⟨p1, p2, l1, l2, hall⟩ := table_facts h1
    have HL := hd (rfl : xs.length = xs.length)
    have HX := hd (fun k (hk : k < xs.length) => show 0 ≤ xs.getD k 0 ∧ xs.getD k 0 < p by
      rw [List.getD_eq_getElem?_getD, List.getElem?_eq_getElem hk]
      exact hall _ (List.getElem_mem hk))
    have HK := hd (fun k (hk : k < xs.length) => take_snoc hk p)
    have HE := hd (show (xs.take xs.length).map (phAt p) = xs.map (phAt p) by rw [List.take_length])
    clear HT0 h1 hall
    generalize hn : xs.length = nn at *
    have Hn := hd hn
    clear hn HL
    go_enter Try.func5, Try.ntmps5
    go_wp2_with (go_at_call 16; refine HT.out.mono ?_; rintro e w' ⟨rfl, hw⟩; subst hw)
    go_loopw [6, 15] (fun v i wr => ∃ k : Nat, k ≤ nn ∧ i = .int .i64 k ∧ wr.ownsRow w.heap.size 37 1 v k (((xs.take k).map (phAt p)).map vc) ∧ Below w.heap.size w wr) (fun _ i _ => nn - (intOf i).toNat)
    case atStart =>
      have hstart := World.ownsRow_made (base := w.heap.size) (size := 1) w #[] 0 (Nat.le_refl _) (by unfold maxLen; omega) rfl (e := 37)
      exact ⟨0, by omega, rfl, by simpa using hstart, (Below.refl _ _).alloc (Nat.le_refl _) _⟩
    case round =>
      clear HT
      obtain ⟨k, hk, rfl, ho, hB⟩ := hrel
      by_cases hlt : k < nn
      · obtain ⟨b', off, rfl, hc⟩ := (hr.below hB).int hlt
        obtain ⟨g1, g2⟩ := HX.out k hlt
        have hst := HK.out k hlt
        clear HX HK HE H hr
        generalize xs.getD k 0 = t at *
        obtain ⟨T, rfl⟩ := Int.eq_ofNat_of_zero_le g1
        obtain ⟨P, rfl⟩ := Int.eq_ofNat_of_zero_le (show 0 ≤ p by omega)
        obtain ⟨f0, hq, F, q, hTu, e1, e2⟩ := time_at (p := P) (t := T) (by omega) (by omega)
        have HP := hd (fun w => l01Phasor_any hTu w)
        rw [← e1, ← e2] at HP
        have Q1 := fun w => run_float_arith (P := Try.prog) w .quo 36 .f64 _ _ _ hq
        have eA : phAt (P : Int) (T : Int) = (rePh T P, imPh T P) := rfl
        rw [eA] at hst
        have HST := hd hst
        have HO := hd ho; have HB := hd hB
        clear hst eA e1 e2 hTu hq ho hB F q
        generalize rePh T P = re at *
        generalize imPh T P = im at *
        go_wp2_with (first
          | (go_at_call 17; refine (HP.out _).mono ?_; rintro e w' ⟨rfl, hw⟩; subst hw)
          | (at_builtin; go_must (refine wpList_app_complex _ _ _ rfl _ _ rfl w.heap.size k _ _ rfl (by first | exact HO.out | exact own_more HO.out) rfl _ rfl (by simp) (by omega) (Nat.le_trans HB.out.size (by simp)) ?_); intro v' w1 ho1 hg1 hap))
        go_roundw
        case rel =>
          refine ⟨k + 1, by omega, by go_num, ?_, below_row hg1 HB.out (own_row HO.out (Nat.le_refl _))⟩
          rw [HST.out, List.map_append]; exact ho1
        case measure => simp [intOf]; omega
      · have e : k = nn := by omega
        subst e
        have HO := hd ho; have HB := hd hB
        clear ho hB hr
        go_wp2
        go_ret2
        rw [PhOut, H.out]
        refine ⟨_, rfl, ?_, HB.out⟩
        have e : (xs.map (phAt p)).length = k := by rw [List.length_map]; exact Hn.out
        show World.ownsRow _ _ _ _ _ (xs.map (phAt p)).length ((xs.map (phAt p)).map vc)
        rw [e, ← HE.out]
        exact HO.out
end Go.Proofs.Ytdhmnajkmeclnaa
