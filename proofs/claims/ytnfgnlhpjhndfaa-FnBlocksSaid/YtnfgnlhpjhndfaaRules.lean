/- Chapter 5: are rules valid? -/
import Derived.Test.YtnfgnlhpjhndfaaPeriods
namespace Go.Proofs.Ytnfgnlhpjhndfaa
open Go.RowKit Plain
set_option linter.unusedVariables false
set_option linter.unusedSimpArgs false
attribute [local go_sem ↓] Go.wp_at_zero Go.wp_at_succ

/-- a rule is valid -/
def ruleB (ev p : Int) (q : Q4) : Bool := inR q.a 0 (ev - 1) && (inR q.b 0 (ev - 1) && (!(q.a == q.b) && (inR q.c 0 (p - 1) && inR q.d q.c (q.c + p - 1))))
/-- rules are valid -/
def rulesB (ev p : Int) (l : List Q4) : Bool := inR ev 1 12 && (inR p 1 60 && (decide ((l.length : Int) ≤ 32) && l.all (ruleB ev p)))
/-- the ways through the test of one rule -/
theorem rule_cases (ev p a b c d : Int) :
    (ruleB ev p ⟨a, b, c, d⟩ = false ∧ inR a 0 (ev - 1) = false) ∨
    (ruleB ev p ⟨a, b, c, d⟩ = false ∧ inR a 0 (ev - 1) = true ∧ inR b 0 (ev - 1) = false) ∨
    (ruleB ev p ⟨a, b, c, d⟩ = false ∧ inR a 0 (ev - 1) = true ∧ inR b 0 (ev - 1) = true ∧ a = b) ∨
    (ruleB ev p ⟨a, b, c, d⟩ = false ∧ inR a 0 (ev - 1) = true ∧ inR b 0 (ev - 1) = true ∧ (a == b) = false ∧ inR c 0 (p - 1) = false) ∨
    (ruleB ev p ⟨a, b, c, d⟩ = false ∧ inR a 0 (ev - 1) = true ∧ inR b 0 (ev - 1) = true ∧ (a == b) = false ∧ inR c 0 (p - 1) = true ∧ (0 ≤ c ∧ c ≤ p - 1) ∧ inR d c (c + p - 1) = false) ∨
    (ruleB ev p ⟨a, b, c, d⟩ = true ∧ inR a 0 (ev - 1) = true ∧ inR b 0 (ev - 1) = true ∧ (a == b) = false ∧ inR c 0 (p - 1) = true ∧ (0 ≤ c ∧ c ≤ p - 1) ∧ inR d c (c + p - 1) = true) := by
  cases h1 : inR a 0 (ev - 1) with
  | false => simp [ruleB, h1]
  | true =>
  cases h2 : inR b 0 (ev - 1) with
  | false => simp [ruleB, h2]
  | true =>
  by_cases h3 : a = b
  · simp [ruleB, h3]
  · cases h4 : inR c 0 (p - 1) with
    | false => simp [ruleB, h4, h3]
    | true =>
      have := inR_iff.1 h4
      cases h5 : inR d c (c + p - 1) with
      | false => simp [ruleB, h1, h2, h3, h4, h5, this]
      | true => simp [ruleB, h1, h2, h3, h4, h5, this]

set_option maxHeartbeats 2000000 in
theorem AreRules_any (ev : Int) (v : Value) (l : List Q4) (p : Int) (w : World) (hs : Sl w 4 v l.length (q4s l)) :
    Calls Try.prog 16 #[.int .i64 ev, v, .int .i64 p] w fun r w' => r = .returned (.bool (rulesB ev p l)) ∧ Below w.heap.size w w' := by
  obtain ⟨A, cap, rfl, hcap, hr⟩ := hs
  have hm := hr.2.1
  unfold maxLen at hm
  cases h1 : inR ev 1 12 with
  | false =>
    have H := hd (show rulesB ev p l = false by rw [rulesB, h1]; rfl)
    go_enter Try.func16, Try.ntmps16
    go_wp2_with (first | (go_at_call 23; refine (areEvents_any _ _).mono ?_; rintro e w' ⟨rfl, rfl⟩) | (go_at_call 24; refine (isPeriod_any _ _).mono ?_; rintro e w' ⟨rfl, rfl⟩))
    go_ret
    exact ⟨ret_bool H.out.symm, Below.refl _ _⟩
  | true =>
  cases h2 : inR p 1 60 with
  | false =>
    have H := hd (show rulesB ev p l = false by rw [rulesB, h2]; simp)
    go_enter Try.func16, Try.ntmps16
    go_wp2_with (first | (go_at_call 23; refine (areEvents_any _ _).mono ?_; rintro e w' ⟨rfl, rfl⟩) | (go_at_call 24; refine (isPeriod_any _ _).mono ?_; rintro e w' ⟨rfl, rfl⟩))
    go_ret
    exact ⟨ret_bool H.out.symm, Below.refl _ _⟩
  | true =>
  by_cases h3 : (l.length : Int) ≤ 32
  rotate_left
  · have H := hd (show rulesB ev p l = false by rw [rulesB, decide_eq_false h3]; simp)
    go_enter Try.func16, Try.ntmps16
    go_wp2_with (first | (go_at_call 23; refine (areEvents_any _ _).mono ?_; rintro e w' ⟨rfl, rfl⟩) | (go_at_call 24; refine (isPeriod_any _ _).mono ?_; rintro e w' ⟨rfl, rfl⟩))
    go_ret
    exact ⟨ret_bool H.out.symm, Below.refl _ _⟩
  have H := hd (show rulesB ev p l = l.all (ruleB ev p) by rw [rulesB, h1, h2, decide_eq_true h3]; rfl)
  obtain ⟨e1, e2⟩ := inR_iff.1 h1
  obtain ⟨p1, p2⟩ := inR_iff.1 h2
  generalize hn : l.length = n at *
  have Hn := hd hn.symm
  clear hn
  go_enter Try.func16, Try.ntmps16
  go_wp2_with (first | (go_at_call 23; refine (areEvents_any _ _).mono ?_; rintro e w' ⟨rfl, rfl⟩) | (go_at_call 24; refine (isPeriod_any _ _).mono ?_; rintro e w' ⟨rfl, rfl⟩))
  clear h1 h2
  go_loopw [24] (fun i wr => ∃ k : Nat, k ≤ n ∧ i = .int .i64 k ∧ Hid ((l.take k).all (ruleB ev p) = true) ∧ Below w.heap.size w wr) (fun i _ => n - (intOf i).toNat)
  case atStart => exact ⟨0, by omega, rfl, by simp [Hid], Below.refl _ _⟩
  case round =>
    obtain ⟨k, hk, rfl, ha, hb⟩ := hrel
    by_cases hlt : k < n
    · obtain ⟨b, off, qa, qb, qc, qd, rfl, hq, c0, c1, c2, c3⟩ := (hr.below hb).q4 hlt
      have Hb := hd hb
      clear hr hb
      rcases rule_cases ev p qa qb qc qd with ⟨hR, g1⟩ | ⟨hR, g1, g2⟩ | ⟨hR, g1, g2, rfl⟩ | ⟨hR, g1, g2, g3, g4⟩ | ⟨hR, g1, g2, g3, g4, ⟨g5, g6⟩, g7⟩ | ⟨hR, g1, g2, g3, g4, ⟨g5, g6⟩, g7⟩
      case inr.inr.inr.inr.inr =>
        have HR := hd hR
        clear hR
        go_wp2_with (go_at_call 25; refine (within_any _ _ _ _).mono ?_; rintro e w' ⟨rfl, rfl⟩)
        go_roundw
        case rel => exact ⟨k + 1, by omega, by go_num, all_take_of ha.out hq.out HR.out, Hb.out.alloc Hb.out.size _⟩
        case measure => simp [intOf]; omega
      all_goals
        have HR := hd hR
        clear hR
        go_wp2_with (go_at_call 25; refine (within_any _ _ _ _).mono ?_; rintro e w' ⟨rfl, rfl⟩)
        go_ret
        exact ⟨ret_bool (by rw [H.out]; exact (all_false_of hq.out HR.out).symm), Hb.out.alloc Hb.out.size _⟩
    · go_wp2
      go_ret
      exact ⟨ret_bool (by rw [H.out]; exact (all_whole ha.out (by have := Hn.out; omega)).symm), hb⟩

end Go.Proofs.Ytnfgnlhpjhndfaa
