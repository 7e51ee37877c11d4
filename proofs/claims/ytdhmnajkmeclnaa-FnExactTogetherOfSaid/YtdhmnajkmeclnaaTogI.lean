/- TogetherOf of the program and of the reference: contracts. -/
import Derived.Test.YtdhmnajkmeclnaaProg
import Derived.Test.YtdhmnajkmeclnaaPhasL
import Derived.Test.YtdhmnajkmeclnaaTogT
import Derived.Test.YtdhmnajkmeclnaaFin
import Derived.Laws.ComplexArith
namespace Go.Proofs.Ytdhmnajkmeclnaa
open Go.RowKit Plain
open Ieee
set_option linter.unusedVariables false
set_option linter.unusedSimpArgs false
attribute [local go_sem ↓] Go.wp_at_zero Go.wp_at_succ
theorem root_entry {x r : Nat} (h : double.sqrt x = some r) : Extern.MathSqrt.sqrt #[.float .f64 x] = pure (.float .f64 r) := by
  have hd : FloatKind.f64.format.sqrt x = some r := h
  conv => lhs; whnf
  rw [hd]
theorem sqrt_run {x r : Nat} (h : double.sqrt x = some r) (w : World) : (callFunc 45 #[.float .f64 x]).run Try.prog w = .ok (.value (.float .f64 r)) w := by
  rw [run_callFunc_extern (e := Extern.MathSqrt.sqrt) Try.func45 (by kernel_rfl) (by kernel_rfl) (by kernel_rfl) (by kernel_rfl)]
  rw [root_entry h]
  rfl
set_option maxHeartbeats 400000 in
theorem mathSqrt_any {x r : Nat} (h : double.sqrt x = some r) (w : World) : Calls Try.prog 37 #[.float .f64 x] w fun e w' => e = .returned (.float .f64 r) ∧ w = w' := by
  have h1 := sqrt_run h
  clear h
  go_enter Try.func37, Try.ntmps37
  go_wp2
  go_ret
  exact ⟨rfl, rfl⟩
/-- two parts that are sums of at most twelve points -/
def Sum2 (a b : Nat) : Prop := (∃ v z, a = single.word v z ∧ z < single.infRung ∧ rv single z ≤ 24) ∧ (∃ v z, b = single.word v z ∧ z < single.infRung ∧ rv single z ≤ 24)
set_option maxHeartbeats 1000000 in
theorem parts_any {a b : Nat} (h : Sum2 a b) (w : World) : Calls Try.prog 46 #[.complex .f32 a b] w fun e w' => e = .returned (.tuple #[.float .f64 (wideW a), .float .f64 (wideW b)]) ∧ w = w' := by
  obtain ⟨c1, c2, _⟩ := pow_at h.1 h.2
  have C1 := fun w => run_convert_float_float (P := Try.prog) w 32 36 .f32 .f64 _ _ (by rw [Try.underlying32]; rfl) Try.underlying36 c1
  have C2 := fun w => run_convert_float_float (P := Try.prog) w 32 36 .f32 .f64 _ _ (by rw [Try.underlying32]; rfl) Try.underlying36 c2
  clear c1 c2 h
  generalize wideW a = x at *
  generalize wideW b = y at *
  go_enter Try.func46, Try.ntmps46
  go_wp2
  go_ret2
  exact ⟨rfl, rfl⟩
set_option maxHeartbeats 1000000 in
theorem power_any {a b : Nat} (h : Sum2 a b) (w : World) : Calls Try.prog 39 #[.complex .f32 a b] w fun e w' => e = .returned (.float .f64 (powW a b)) ∧ w = w' := by
  obtain ⟨_, _, x, y, m1, m2, m3, _⟩ := pow_at h.1 h.2
  have HP := hd (fun w => parts_any h w)
  have M1 := fun w => run_float_arith (P := Try.prog) w .mul 36 .f64 _ _ _ m1
  have M2 := fun w => run_float_arith (P := Try.prog) w .mul 36 .f64 _ _ _ m2
  have M3 := fun w => run_float_arith (P := Try.prog) w .add 36 .f64 _ _ _ m3
  clear m1 m2 m3 h
  generalize wideW a = p at *
  generalize wideW b = q at *
  generalize powW a b = r at *
  go_enter Try.func39, Try.ntmps39
  go_wp2_with (go_at_call 46; refine (HP.out _).mono ?_; rintro e w' ⟨rfl, hw⟩; subst hw)
  go_ret
  exact ⟨rfl, rfl⟩
set_option maxHeartbeats 1000000 in
theorem longOf_any {a b : Nat} (h : Sum2 a b) (w : World) : Calls Try.prog 23 #[.complex .f32 a b] w fun e w' => e = .returned (.float .f32 (narW (rootW (powW a b)))) ∧ w = w' := by
  obtain ⟨_, _, _, _, _, _, _, hp⟩ := pow_at h.1 h.2
  have HP := hd (fun w => power_any h w)
  have HS := hd (fun w => mathSqrt_any (sqrt_at hp).1 w)
  have C := fun w => run_convert_float_float (P := Try.prog) w 36 32 .f64 .f32 _ _ (by rw [Try.underlying36]; rfl) Try.underlying32 (tog_at (n := 1) hp (by omega) (by omega)).1
  clear hp h
  generalize narW (rootW (powW a b)) = r at *
  generalize rootW (powW a b) = q at *
  generalize powW a b = p at *
  go_enter Try.func23, Try.ntmps23
  go_wp2_with (first | (go_at_call 39; refine (HP.out _).mono ?_; rintro e w' ⟨rfl, hw⟩; subst hw) | (go_at_call 37; refine (HS.out _).mono ?_; rintro e w' ⟨rfl, hw⟩; subst hw))
  go_ret
  exact ⟨rfl, rfl⟩
set_option maxHeartbeats 1000000 in
theorem l01Power_any {a b : Nat} (h : Sum2 a b) (w : World) : Calls Try.prog 38 #[.complex .f32 a b] w fun e w' => e = .returned (.float .f64 (powW a b)) ∧ w = w' := by
  obtain ⟨c1, c2, x, y, m1, m2, m3, _⟩ := pow_at h.1 h.2
  have C1 := fun w => run_convert_float_float (P := Try.prog) w 32 36 .f32 .f64 _ _ (by rw [Try.underlying32]; rfl) Try.underlying36 c1
  have C2 := fun w => run_convert_float_float (P := Try.prog) w 32 36 .f32 .f64 _ _ (by rw [Try.underlying32]; rfl) Try.underlying36 c2
  have M1 := fun w => run_float_arith (P := Try.prog) w .mul 36 .f64 _ _ _ m1
  have M2 := fun w => run_float_arith (P := Try.prog) w .mul 36 .f64 _ _ _ m2
  have M3 := fun w => run_float_arith (P := Try.prog) w .add 36 .f64 _ _ _ m3
  clear c1 c2 m1 m2 m3 h
  generalize wideW a = p at *
  generalize wideW b = q at *
  generalize powW a b = r at *
  go_enter Try.func38, Try.ntmps38
  go_wp2
  go_ret
  exact ⟨rfl, rfl⟩
set_option maxHeartbeats 1000000 in
theorem l01Long_any {a b : Nat} (h : Sum2 a b) (w : World) : Calls Try.prog 22 #[.complex .f32 a b] w fun e w' => e = .returned (.float .f32 (narW (rootW (powW a b)))) ∧ w = w' := by
  obtain ⟨_, _, _, _, _, _, _, hp⟩ := pow_at h.1 h.2
  have HP := hd (fun w => l01Power_any h w)
  have HS := hd (fun w => mathSqrt_any (sqrt_at hp).1 w)
  have C := hd (fun w => l01Narrow_num (tog_at (n := 1) hp (by omega) (by omega)).1 w)
  clear hp h
  generalize narW (rootW (powW a b)) = r at *
  generalize rootW (powW a b) = q at *
  generalize powW a b = p at *
  go_enter Try.func22, Try.ntmps22
  go_wp2_with (first | (go_at_call 38; refine (HP.out _).mono ?_; rintro e w' ⟨rfl, hw⟩; subst hw) | (go_at_call 37; refine (HS.out _).mono ?_; rintro e w' ⟨rfl, hw⟩; subst hw) | (go_at_call 28; refine (C.out _).mono ?_; rintro e w' ⟨rfl, hw⟩; subst hw))
  go_ret
  exact ⟨rfl, rfl⟩
def reAt (xs : List Int) (p : Int) (k : Nat) : Nat := (phAt p (xs.getD k 0)).1
def imAt (xs : List Int) (p : Int) (k : Nat) : Nat := (phAt p (xs.getD k 0)).2
def togM (xs : List Int) (p : Int) : Nat × Bool := if tableB xs p then (togW (sumW (reAt xs p) xs.length) (sumW (imAt xs p) xs.length) xs.length, true) else (0, false)
def TogOut (m : Nat × Bool) (w : World) (r : Ending) (w' : World) : Prop := r = .returned (.tuple #[.float .f32 m.1, .bool m.2]) ∧ Below w.heap.size w w'
theorem tog_no {xs : List Int} {p : Int} (h : tableB xs p = false) : togM xs p = (0, false) := by rw [togM, h]; rfl
theorem tog_yes {xs : List Int} {p : Int} (h : tableB xs p = true) : togM xs p = (togW (sumW (reAt xs p) xs.length) (sumW (imAt xs p) xs.length) xs.length, true) := by rw [togM, h]; rfl
theorem tog_small {xs : List Int} {p : Int} (h : tableB xs p = true) {k : Nat} (hk : k < xs.length) : Small (reAt xs p k) ∧ Small (imAt xs p k) := by
  obtain ⟨p1, p2, _, _, hall⟩ := table_facts h
  have hx : xs.getD k 0 ∈ xs := by
    rw [List.getD_eq_getElem?_getD, List.getElem?_eq_getElem hk]
    exact List.getElem_mem hk
  obtain ⟨t0, t1⟩ := hall _ hx
  exact ph_small (p := p.toNat) (t := (xs.getD k 0).toNat) (by omega) (by omega)
theorem tog_sums {xs : List Int} {p : Int} (h : tableB xs p = true) : Sum2 (sumW (reAt xs p) xs.length) (sumW (imAt xs p) xs.length) := by
  obtain ⟨_, _, _, l2, _⟩ := table_facts h
  exact ⟨sum_end l2 (fun j hj => (tog_small h hj).1), sum_end l2 (fun j hj => (tog_small h hj).2)⟩
theorem ph_get {xs : List Int} {p : Int} {k : Nat} (hk : k < xs.length) : (xs.map (phAt p)).getD k (0, 0) = phAt p (xs.getD k 0) := by
  rw [List.getD_eq_getElem?_getD, List.getElem?_map, List.getD_eq_getElem?_getD, List.getElem?_eq_getElem hk]
  rfl
theorem floatOfInt_near (n : Nat) : floatOfInt .f32 (n : Int) = single.nearest false n 0 := by
  show single.write (.number (decide ((n : Int) < 0)) (n : Int).natAbs 0) = _
  rw [decide_eq_false (by omega), Int.natAbs_natCast]
  rfl
theorem tog_fin {x : Nat} (hx : x ≤ 1115684864) : finB (nrm .f32 x) = true := by
  obtain ⟨h1, h2⟩ := tog_num hx
  rw [finB, fop_eq, show floatBits .sub .f32 x x = some 0 from h1]
  decide
set_option maxHeartbeats 4000000 in
set_option maxRecDepth 100000 in
theorem implTog_any (v0 : Value) (xs : List Int) (p : Int) (w : World) (s0 : Sl w 1 v0 xs.length (xs.map vi)) : Calls Try.prog 14 #[v0, .int .i64 p] w (TogOut (togM xs p) w) := by
  have HP0 := implPhases_any v0 xs p w s0
  obtain ⟨A, cap, rfl, hcap, hr⟩ := s0
  clear hr
  cases h1 : tableB xs p with
  | false =>
    have H := hd (tog_no h1)
    rw [phases_no h1] at HP0
    have HP := hd HP0
    clear HP0 h1
    go_enter Try.func14, Try.ntmps14
    go_wp2_with (go_at_call 7; refine HP.out.mono ?_; rintro e w' ⟨u, rfl, ho, hB⟩; have HO := hd ho; have HB := hd hB; clear ho hB)
    go_ret2
    rw [TogOut, H.out]
    exact ⟨rfl, HB.out⟩
  | true =>
    have H := hd (tog_yes h1)
    rw [phases_yes h1] at HP0
    have HP := hd HP0
    obtain ⟨p1, p2, l1, l2, hall⟩ := table_facts h1
    have hsum := tog_sums h1
    have HS1 := hd (fun k (hk : k < xs.length) => sum_step (f := reAt xs p) (k := k) (by omega) (fun j hj => (tog_small h1 (by omega)).1))
    have HS2 := hd (fun k (hk : k < xs.length) => sum_step (f := imAt xs p) (k := k) (by omega) (fun j hj => (tog_small h1 (by omega)).2))
    have HG := hd (fun k (hk : k < xs.length) => ph_get (p := p) hk)
    obtain ⟨_, _, _, _, _, _, _, hp⟩ := pow_at hsum.1 hsum.2
    have HD := (tog_at hp l1 l2).2.1
    have HLo := hd (fun w => longOf_any hsum w)
    have HLn := hd (show (xs.map (phAt p)).length = xs.length by rw [List.length_map])
    rw [← floatOfInt_near] at HD
    have D1 := fun w => run_float_arith (P := Try.prog) w .quo 32 .f32 _ _ _ HD
    clear HP0 h1 hall hsum hp HD
    generalize togW (sumW (reAt xs p) xs.length) (sumW (imAt xs p) xs.length) xs.length = res at *
    generalize narW (rootW (powW (sumW (reAt xs p) xs.length) (sumW (imAt xs p) xs.length))) = lo at *
    generalize hl : xs.map (phAt p) = ps at *
    generalize hn : xs.length = nn at *
    clear hl hn
    go_enter Try.func14, Try.ntmps14
    go_wp2_with fail
    refine HP.out.mono ?_
    rintro e w1 ⟨u, rfl, ho, hB⟩
    dsimp only at ho
    rw [HLn.out] at ho
    obtain ⟨A2, cap2, rfl, hcap2, hr⟩ := own_sl ho (size_le (show nn ≤ 1048576 by omega))
    have hm2 := hr.2.1
    unfold maxLen at hm2
    have HB := hd hB
    clear ho hB HP HLn
    go_wp2
    go_loopw [8, 9, 22] (fun re im i wr => ∃ k : Nat, k ≤ nn ∧ i = .int .i64 k ∧ re = .float .f32 (sumW (reAt xs p) k) ∧ im = .float .f32 (sumW (imAt xs p) k) ∧ wr = w1) (fun _ _ i _ => nn - (intOf i).toNat)
    case atStart => exact ⟨0, by omega, rfl, rfl, rfl, rfl⟩
    case round =>
      obtain ⟨k, hk, rfl, rfl, rfl, rfl⟩ := hrel
      by_cases hlt : k < nn
      · obtain ⟨b, off, rfl, hc⟩ := hr.cpx hlt
        rw [HG.out k hlt] at hc
        have s1 := HS1.out k hlt
        have s2 := HS2.out k hlt
        have e1 : (phAt p (xs.getD k 0)).1 = reAt xs p k := rfl
        have e2 : (phAt p (xs.getD k 0)).2 = imAt xs p k := rfl
        rw [e1, e2] at hc
        have A1 := fun w => run_float_arith (P := Try.prog) w .add 32 .f32 _ _ _ s1
        have A2' := fun w => run_float_arith (P := Try.prog) w .add 32 .f32 _ _ _ s2
        clear s1 s2 e1 e2 HS1 HS2 HG hr D1 HLo H
        generalize reAt xs p k = x at *
        generalize imAt xs p k = y at *
        obtain ⟨n1, hn1⟩ : ∃ n1, n1 = sumW (reAt xs p) (k + 1) := ⟨_, rfl⟩
        obtain ⟨n2, hn2⟩ : ∃ n2, n2 = sumW (imAt xs p) (k + 1) := ⟨_, rfl⟩
        rw [← hn1] at A1
        rw [← hn2] at A2'
        have HN1 := hd hn1
        have HN2 := hd hn2
        clear hn1 hn2
        generalize sumW (reAt xs p) k = c1 at *
        generalize sumW (imAt xs p) k = c2 at *
        go_wp2
        go_roundw
        case rel => exact ⟨k + 1, by omega, by go_num, by rw [HN1.out], by rw [HN2.out], by trivial⟩
        case measure => simp [intOf]; omega
      · have e : k = nn := by omega
        subst e
        clear HS1 HS2 HG hr
        generalize sumW (reAt xs p) k = c1 at *
        generalize sumW (imAt xs p) k = c2 at *
        go_wp2_with (go_at_call 23; refine (HLo.out _).mono ?_; rintro e w' ⟨rfl, hw⟩; subst hw)
        go_ret2
        rw [TogOut, H.out]
        exact ⟨rfl, HB.out⟩
set_option maxHeartbeats 4000000 in
set_option maxRecDepth 100000 in
theorem specTog_any (v0 : Value) (xs : List Int) (p : Int) (w : World) (s0 : Sl w 1 v0 xs.length (xs.map vi)) : Calls Try.prog 13 #[v0, .int .i64 p] w (TogOut (togM xs p) w) := by
  have HP0 := specPhases_any v0 xs p w s0
  obtain ⟨A, cap, rfl, hcap, hr⟩ := s0
  clear hr
  cases h1 : tableB xs p with
  | false =>
    have H := hd (tog_no h1)
    rw [phases_no h1] at HP0
    have HP := hd HP0
    clear HP0 h1
    go_enter Try.func13, Try.ntmps13
    go_wp2_with (go_at_call 5; refine HP.out.mono ?_; rintro e w' ⟨u, rfl, ho, hB⟩; have HO := hd ho; have HB := hd hB; clear ho hB)
    go_ret2
    rw [TogOut, H.out]
    exact ⟨rfl, HB.out⟩
  | true =>
    have H := hd (tog_yes h1)
    rw [phases_yes h1] at HP0
    have HP := hd HP0
    obtain ⟨p1, p2, l1, l2, hall⟩ := table_facts h1
    have hsum := tog_sums h1
    have HS1 := hd (fun k (hk : k < xs.length) => sum_step (f := reAt xs p) (k := k) (by omega) (fun j hj => (tog_small h1 (by omega)).1))
    have HS2 := hd (fun k (hk : k < xs.length) => sum_step (f := imAt xs p) (k := k) (by omega) (fun j hj => (tog_small h1 (by omega)).2))
    have HG := hd (fun k (hk : k < xs.length) => ph_get (p := p) hk)
    obtain ⟨_, _, _, _, _, _, _, hp⟩ := pow_at hsum.1 hsum.2
    have HD := (tog_at hp l1 l2).2.1
    have HNu := hd (fun w => l02Number_t (togW (sumW (reAt xs p) xs.length) (sumW (imAt xs p) xs.length) xs.length) w (tog_fin (tog_at hp l1 l2).2.2))
    have HLo := hd (fun w => l01Long_any hsum w)
    have HLn := hd (show (xs.map (phAt p)).length = xs.length by rw [List.length_map])
    rw [← floatOfInt_near] at HD
    have D1 := fun w => run_float_arith (P := Try.prog) w .quo 32 .f32 _ _ _ HD
    clear HP0 h1 hall hsum hp HD
    generalize togW (sumW (reAt xs p) xs.length) (sumW (imAt xs p) xs.length) xs.length = res at *
    generalize narW (rootW (powW (sumW (reAt xs p) xs.length) (sumW (imAt xs p) xs.length))) = lo at *
    generalize hl : xs.map (phAt p) = ps at *
    generalize hn : xs.length = nn at *
    clear hl hn
    go_enter Try.func13, Try.ntmps13
    go_wp2_with fail
    refine HP.out.mono ?_
    rintro e w1 ⟨u, rfl, ho, hB⟩
    dsimp only at ho
    rw [HLn.out] at ho
    obtain ⟨A2, cap2, rfl, hcap2, hr⟩ := own_sl ho (size_le (show nn ≤ 1048576 by omega))
    have hm2 := hr.2.1
    unfold maxLen at hm2
    have HB := hd hB
    clear ho hB HP HLn
    go_wp2
    go_loopw [8, 20] (fun re i wr => ∃ k : Nat, k ≤ nn ∧ i = .int .i64 k ∧ re = .complex .f32 (sumW (reAt xs p) k) (sumW (imAt xs p) k) ∧ wr = w1) (fun _ i _ => nn - (intOf i).toNat)
    case atStart => exact ⟨0, by omega, rfl, rfl, rfl⟩
    case round =>
      obtain ⟨k, hk, rfl, rfl, rfl⟩ := hrel
      by_cases hlt : k < nn
      · obtain ⟨b, off, rfl, hc⟩ := hr.cpx hlt
        rw [HG.out k hlt] at hc
        have s1 := HS1.out k hlt
        have s2 := HS2.out k hlt
        have e1 : (phAt p (xs.getD k 0)).1 = reAt xs p k := rfl
        have e2 : (phAt p (xs.getD k 0)).2 = imAt xs p k := rfl
        rw [e1, e2] at hc
        have hcs : cSumBits .add .f32 (sumW (reAt xs p) k) (sumW (imAt xs p) k) (reAt xs p k) (imAt xs p k) = some (sumW (reAt xs p) (k + 1), sumW (imAt xs p) (k + 1)) := by
          rw [cSumBits, show floatBits .add .f32 (sumW (reAt xs p) k) (reAt xs p k) = _ from s1, show floatBits .add .f32 (sumW (imAt xs p) k) (imAt xs p k) = _ from s2]
          rfl
        have A1 := fun w => run_complex_sum (P := Try.prog) w .add (Or.inl rfl) 37 .f32 _ _ _ _ _ _ hcs
        clear s1 s2 e1 e2 HS1 HS2 HG hr D1 HLo H hcs HNu
        generalize reAt xs p k = x at *
        generalize imAt xs p k = y at *
        obtain ⟨n1, hn1⟩ : ∃ n1, n1 = sumW (reAt xs p) (k + 1) := ⟨_, rfl⟩
        obtain ⟨n2, hn2⟩ : ∃ n2, n2 = sumW (imAt xs p) (k + 1) := ⟨_, rfl⟩
        rw [← hn1, ← hn2] at A1
        have HN1 := hd hn1
        have HN2 := hd hn2
        clear hn1 hn2
        generalize sumW (reAt xs p) k = c1 at *
        generalize sumW (imAt xs p) k = c2 at *
        go_wp2
        go_roundw
        case rel => exact ⟨k + 1, by omega, by go_num, by rw [HN1.out, HN2.out], by trivial⟩
        case measure => simp [intOf]; omega
      · have e : k = nn := by omega
        subst e
        clear HS1 HS2 HG hr
        generalize sumW (reAt xs p) k = c1 at *
        generalize sumW (imAt xs p) k = c2 at *
        go_wp2_with (first | (go_at_call 22; refine (HLo.out _).mono ?_; rintro e w' ⟨rfl, hw⟩; subst hw) | (go_at_call 21; refine (HNu.out _).mono ?_; rintro e w' ⟨rfl, hb⟩; have Hb := hd hb; clear hb))
        go_ret2
        rw [TogOut, H.out]
        exact ⟨rfl, below_tr Hb.out HB.out⟩
end Go.Proofs.Ytdhmnajkmeclnaa
