/- Arcs that are valid, on both sides; numbers of a period; an arc's rise. -/
import Derived.Test.YtclkgfcehmmgaaaProg
import Derived.Test.YtclkgfcehmmgaaaNum
import Derived.Test.YtclkgfcehmmgaaaWords
import Derived.Test.YtclkgfcehmmgaaaPeriods
import Derived.Sort.AtCall
namespace Go.Proofs.Ytclkgfcehmmgaaa
open Go.RowKit Plain
set_option linter.unusedVariables false
set_option linter.unusedSimpArgs false
attribute [local go_sem ↓] Go.wp_at_zero Go.wp_at_succ

def arcB (ev : Int) (q : Q4) : Bool := inR q.a 0 (ev - 1) && (inR q.b 0 (ev - 1) && (inR q.c 0 1000 && inR q.d 0 10))
def arcsB (ev : Int) (l : List Q4) : Bool := inR ev 1 12 && (decide (1 ≤ (l.length : Int)) && (decide ((l.length : Int) ≤ 32) && l.all (arcB ev)))
theorem arc_cases (ev a b c d : Int) :
    (arcB ev ⟨a, b, c, d⟩ = true ∧ inR a 0 (ev - 1) = true ∧ inR b 0 (ev - 1) = true ∧ inR c 0 1000 = true ∧ inR d 0 10 = true) ∨
    (arcB ev ⟨a, b, c, d⟩ = false ∧ inR a 0 (ev - 1) = false) ∨ (arcB ev ⟨a, b, c, d⟩ = false ∧ inR a 0 (ev - 1) = true ∧ inR b 0 (ev - 1) = false) ∨
    (arcB ev ⟨a, b, c, d⟩ = false ∧ inR a 0 (ev - 1) = true ∧ inR b 0 (ev - 1) = true ∧ inR c 0 1000 = false) ∨
    (arcB ev ⟨a, b, c, d⟩ = false ∧ inR a 0 (ev - 1) = true ∧ inR b 0 (ev - 1) = true ∧ inR c 0 1000 = true ∧ inR d 0 10 = false) := by
  unfold arcB
  cases inR a 0 (ev - 1) <;> cases inR b 0 (ev - 1) <;> cases inR c 0 1000 <;> cases inR d 0 10 <;> simp

set_option maxHeartbeats 2000000 in
set_option maxRecDepth 100000 in
theorem AreArcs_any (ev : Int) (v : Value) (l : List Q4) (w : World) (hs : Sl w 4 v l.length (q4s l)) :
    Calls Try.prog 11 #[.int .i64 ev, v] w fun r w' => r = .returned (.bool (arcsB ev l)) ∧ Below w.heap.size w w' := by
  obtain ⟨A, cap, rfl, hcap, hr⟩ := hs
  have hm := hr.2.1
  unfold maxLen at hm
  cases h1 : inR ev 1 12 with
  | false =>
    have H := hd (show arcsB ev l = false by rw [arcsB, h1]; rfl)
    have HE := hd (fun w' => (areEvents_any ev w').mono (fun e w2 (h : e = .returned (.bool (inR ev 1 12)) ∧ w' = w2) => (show e = .returned (.bool false) ∧ w' = w2 from ⟨by rw [h.1, h1], h.2⟩)))
    generalize hn : l.length = n at *
    clear hn h1
    go_enter Try.func11, Try.ntmps11
    go_wp2
    go_loopw [9] (fun i wr => ∃ k : Nat, k ≤ n ∧ i = .int .i64 k ∧ Below w.heap.size w wr) (fun i _ => n - (intOf i).toNat)
    case atStart => exact ⟨0, by omega, rfl, Below.refl _ _⟩
    case round =>
      obtain ⟨k, hk, rfl, hb⟩ := hrel
      by_cases hlt : k < n
      · obtain ⟨b, off, qa, qb, qc, qd, rfl, hq, c0, c1, c2, c3⟩ := (hr.below hb).q4 hlt
        have Hb := hd hb
        clear hr hb
        go_wp2_with (go_at_call 36; refine (within_any _ _ _ _).mono ?_; rintro e w' ⟨rfl, rfl⟩)
        all_goals first
          | (go_ret; exact ⟨ret_bool H.out.symm, Hb.out.alloc Hb.out.size _⟩)
          | (go_roundw
             case rel => exact ⟨k + 1, by omega, by go_num, Hb.out.alloc Hb.out.size _⟩
             case measure => simp [intOf]; omega)
      · have Hb := hd hb
        clear hb
        go_wp2_with (go_at_call 37; refine (HE.out _).mono ?_; rintro e w' ⟨rfl, hw⟩; subst hw)
        go_ret
        exact ⟨ret_bool H.out.symm, Hb.out⟩
  | true =>
    obtain ⟨e1, e2⟩ := inR_iff.1 h1
    have HE := hd (fun w' => (areEvents_any ev w').mono (fun e w2 (h : e = .returned (.bool (inR ev 1 12)) ∧ w' = w2) => (show e = .returned (.bool true) ∧ w' = w2 from ⟨by rw [h.1, h1], h.2⟩)))
    have HN := hd (fun (k : Nat) (q : Q4) (hk : l[k]? = some q) (hp : arcB ev q = false) => (show arcsB ev l = false by rw [arcsB, all_false_of hk hp]; simp))
    have HY := hd (fun (hp : l.all (arcB ev) = true) => (show arcsB ev l = (decide (1 ≤ (l.length : Int)) && decide ((l.length : Int) ≤ 32)) by rw [arcsB, h1, hp]; simp))
    generalize hn : l.length = n at *
    have Hn := hd hn.symm
    clear hn h1
    go_enter Try.func11, Try.ntmps11
    go_wp2
    go_loopw [9] (fun i wr => ∃ k : Nat, k ≤ n ∧ i = .int .i64 k ∧ Hid ((l.take k).all (arcB ev) = true) ∧ Below w.heap.size w wr) (fun i _ => n - (intOf i).toNat)
    case atStart => exact ⟨0, by omega, rfl, by simp [Hid], Below.refl _ _⟩
    case round =>
      obtain ⟨k, hk, rfl, ha, hb⟩ := hrel
      by_cases hlt : k < n
      · obtain ⟨b, off, qa, qb, qc, qd, rfl, hq, c0, c1, c2, c3⟩ := (hr.below hb).q4 hlt
        have Hb := hd hb
        clear hr hb
        rcases arc_cases ev qa qb qc qd with ⟨hR, g1, g2, g3, g4⟩ | ⟨hR, g1⟩ | ⟨hR, g1, g2⟩ | ⟨hR, g1, g2, g3⟩ | ⟨hR, g1, g2, g3, g4⟩
        case inl =>
          have HR := hd hR
          clear hR
          go_wp2_with (go_at_call 36; first | (refine (within_t _ _ _ _ (by assumption)).mono ?_; rintro e w' ⟨rfl, rfl⟩) | (refine (within_f _ _ _ _ (by assumption)).mono ?_; rintro e w' ⟨rfl, rfl⟩))
          go_roundw
          case rel => exact ⟨k + 1, by omega, by go_num, all_take_of ha.out hq.out HR.out, Hb.out.alloc Hb.out.size _⟩
          case measure => simp [intOf]; omega
        all_goals
          have HR := hd hR
          clear hR
          go_wp2_with (go_at_call 36; first | (refine (within_t _ _ _ _ (by assumption)).mono ?_; rintro e w' ⟨rfl, rfl⟩) | (refine (within_f _ _ _ _ (by assumption)).mono ?_; rintro e w' ⟨rfl, rfl⟩))
          go_ret
          exact ⟨ret_bool (HN.out k _ hq.out HR.out).symm, Hb.out.alloc Hb.out.size _⟩
      · have H := hd (HY.out (all_whole ha.out (by have := Hn.out; omega)))
        have Hb := hd hb
        clear hb
        go_wp2_with (go_at_call 37; refine (HE.out _).mono ?_; rintro e w' ⟨rfl, hw⟩; subst hw)
        all_goals
          go_ret
          exact ⟨ret_bool (by rw [H.out]; simp; try omega), Hb.out⟩

def fracB (lg by' : Int) : Bool := inR lg 0 1000000 && inR by' 1 1000
set_option maxHeartbeats 400000 in
set_option maxRecDepth 100000 in
theorem isPeriodNumber_any (lg q : Int) (w : World) : Calls Try.prog 42 #[.int .i64 lg, .int .i64 q] w fun r w' => r = .returned (.bool (fracB lg q)) ∧ w' = w := by
  obtain ⟨b1, h1⟩ : ∃ b, inR lg 0 1000000 = b := ⟨_, rfl⟩
  obtain ⟨b2, h2⟩ : ∃ b, inR q 1 1000 = b := ⟨_, rfl⟩
  have A1 := hd (fun w' => (within_any lg 0 1000000 w').mono (fun e w2 h => (show e = .returned (.bool b1) ∧ w' = w2 from ⟨by rw [h.1, h1], h.2⟩)))
  have B1 := hd (fun w' => (within_any q 1 1000 w').mono (fun e w2 h => (show e = .returned (.bool b2) ∧ w' = w2 from ⟨by rw [h.1, h2], h.2⟩)))
  have H := hd (show fracB lg q = (b1 && b2) by rw [fracB, h1, h2])
  clear h1 h2
  cases b1 <;> cases b2
  all_goals
    go_enter Try.func42, Try.ntmps42
    go_wp2_with (first | (go_at_call_has 36 lg; refine (A1.out _).mono ?_; rintro e w' ⟨rfl, hw⟩; subst hw) | (go_at_call_has 36 q; refine (B1.out _).mono ?_; rintro e w' ⟨rfl, hw⟩; subst hw))
    go_ret
    exact ⟨ret_bool (by rw [H.out]; rfl), rfl⟩

set_option maxHeartbeats 400000 in
set_option maxRecDepth 100000 in
theorem weight_any (a b c d lg q : Int) (w : World) (c0 : 0 ≤ c) (c1 : c ≤ 1000) (d0 : 0 ≤ d) (d1 : d ≤ 10) (l0 : -1000000 ≤ lg) (l1 : lg ≤ 1000000) (q0 : 0 ≤ q) (q1 : q ≤ 1000) :
    Calls Try.prog 51 #[.agg #[.int .i64 a, .int .i64 b, .int .i64 c, .int .i64 d], .int .i64 lg, .int .i64 q] w fun r w' => r = .returned (.int .i64 (q * c - lg * d)) ∧ Below w.heap.size w w' := by
  have m1 : 0 ≤ q * c := Int.mul_nonneg q0 c0
  have m2 : q * c ≤ 1000 * 1000 := Int.mul_le_mul q1 c1 c0 (by omega)
  have m3 : lg * d ≤ 1000000 * 10 := by
    have h1 : lg * d ≤ 1000000 * d := Int.mul_le_mul_of_nonneg_right l1 d0
    omega
  have m4 : -1000000 * 10 ≤ lg * d := by
    have h1 : -1000000 * d ≤ lg * d := Int.mul_le_mul_of_nonneg_right l0 d0
    omega
  have w1 : IntKind.i64.wrap (q * c) = q * c := IntWalk.i64_in _ (by omega)
  have w2 : IntKind.i64.wrap (lg * d) = lg * d := IntWalk.i64_in _ (by omega)
  have w3 : IntKind.i64.wrap (q * c - lg * d) = q * c - lg * d := IntWalk.i64_in _ (by omega)
  go_enter Try.func51, Try.ntmps51
  go_wp2
  go_ret
  exact ⟨ret_i64 (by first | rfl | simp only [w1, w2, w3]), by go_grown⟩

set_option maxHeartbeats 2000000 in
set_option maxRecDepth 100000 in
theorem l05Arcs_any (ev : Int) (v : Value) (l : List Q4) (w : World) (hs : Sl w 4 v l.length (q4s l)) :
    Calls Try.prog 28 #[.int .i64 ev, v] w fun r w' => r = .returned (.bool (arcsB ev l)) ∧ Below w.heap.size w w' := by
  obtain ⟨A, cap, rfl, hcap, hr⟩ := hs
  have hm := hr.2.1
  unfold maxLen at hm
  cases h1 : inR ev 1 12 with
  | false =>
    have H := hd (show arcsB ev l = false by rw [arcsB, h1]; rfl)
    have HE := hd (fun w' => (l05Nodes_any ev w').mono (fun e w2 (h : e = .returned (.bool (inR ev 1 12)) ∧ w' = w2) => (show e = .returned (.bool false) ∧ w' = w2 from ⟨by rw [h.1, h1], h.2⟩)))
    clear h1
    go_enter Try.func28, Try.ntmps28
    go_wp2_with (go_at_call 46; refine (HE.out _).mono ?_; rintro e w' ⟨rfl, hw⟩; subst hw)
    go_ret
    exact ⟨ret_bool H.out.symm, Below.refl _ _⟩
  | true =>
    obtain ⟨e1, e2⟩ := inR_iff.1 h1
    have HE := hd (fun w' => (l05Nodes_any ev w').mono (fun e w2 (h : e = .returned (.bool (inR ev 1 12)) ∧ w' = w2) => (show e = .returned (.bool true) ∧ w' = w2 from ⟨by rw [h.1, h1], h.2⟩)))
    by_cases c1 : (l.length : Int) < 1
    · have H := hd (show arcsB ev l = false by rw [arcsB, show decide (1 ≤ (l.length : Int)) = false from decide_eq_false (by omega)]; simp)
      clear h1
      go_enter Try.func28, Try.ntmps28
      go_wp2_with (go_at_call 46; refine (HE.out _).mono ?_; rintro e w' ⟨rfl, hw⟩; subst hw)
      go_ret
      exact ⟨ret_bool H.out.symm, Below.refl _ _⟩
    · by_cases c2 : (32 : Int) < (l.length : Int)
      · have H := hd (show arcsB ev l = false by rw [arcsB, show decide ((l.length : Int) ≤ 32) = false from decide_eq_false (by omega)]; simp)
        clear h1
        go_enter Try.func28, Try.ntmps28
        go_wp2_with (go_at_call 46; refine (HE.out _).mono ?_; rintro e w' ⟨rfl, hw⟩; subst hw)
        go_ret
        exact ⟨ret_bool H.out.symm, Below.refl _ _⟩
      · have HN := hd (fun (k : Nat) (q : Q4) (hk : l[k]? = some q) (hp : arcB ev q = false) => (show arcsB ev l = false by rw [arcsB, all_false_of hk hp]; simp))
        have HY := hd (fun (hp : l.all (arcB ev) = true) => (show arcsB ev l = true by rw [arcsB, h1, hp, decide_eq_true (show (1 : Int) ≤ l.length by omega), decide_eq_true (show (l.length : Int) ≤ 32 by omega)]; rfl))
        generalize hn : l.length = n at *
        have Hn := hd hn.symm
        clear hn h1
        go_enter Try.func28, Try.ntmps28
        go_wp2_with (go_at_call 46; refine (HE.out _).mono ?_; rintro e w' ⟨rfl, hw⟩; subst hw)
        go_loopw [22] (fun i wr => ∃ k : Nat, k ≤ n ∧ i = .int .i64 k ∧ Hid ((l.take k).all (arcB ev) = true) ∧ Below w.heap.size w wr) (fun i _ => n - (intOf i).toNat)
        case atStart => exact ⟨0, by omega, rfl, by simp [Hid], Below.refl _ _⟩
        case round =>
          obtain ⟨k, hk, rfl, ha, hb⟩ := hrel
          by_cases hlt : k < n
          · obtain ⟨b, off, qa, qb, qc, qd, rfl, hq, c0, c1, c2, c3⟩ := (hr.below hb).q4 hlt
            have Hb := hd hb
            clear hr hb
            rcases arc_cases ev qa qb qc qd with ⟨hR, g1, g2, g3, g4⟩ | ⟨hR, g1⟩ | ⟨hR, g1, g2⟩ | ⟨hR, g1, g2, g3⟩ | ⟨hR, g1, g2, g3, g4⟩
            case inl =>
              have HR := hd hR
              clear hR
              go_wp2_with (go_at_call 39; first | (refine (l00In_t _ _ _ _ (by assumption)).mono ?_; rintro e w' ⟨rfl, rfl⟩) | (refine (l00In_f _ _ _ _ (by assumption)).mono ?_; rintro e w' ⟨rfl, rfl⟩))
              go_roundw
              case rel => exact ⟨k + 1, by omega, by go_num, all_take_of ha.out hq.out HR.out, Hb.out⟩
              case measure => simp [intOf]; omega
            all_goals
              have HR := hd hR
              clear hR
              go_wp2_with (go_at_call 39; first | (refine (l00In_t _ _ _ _ (by assumption)).mono ?_; rintro e w' ⟨rfl, rfl⟩) | (refine (l00In_f _ _ _ _ (by assumption)).mono ?_; rintro e w' ⟨rfl, rfl⟩))
              go_ret
              exact ⟨ret_bool (HN.out k _ hq.out HR.out).symm, Hb.out⟩
          · have H := hd (HY.out (all_whole ha.out (by have := Hn.out; omega)))
            go_wp2
            go_ret
            exact ⟨ret_bool H.out.symm, hb⟩
end Go.Proofs.Ytclkgfcehmmgaaa
