/- IsPeriod, the program's side. -/
import Derived.Test.YtclkgfcehmmgaaaProg
import Derived.Test.YtclkgfcehmmgaaaArcs
import Derived.Test.YtclkgfcehmmgaaaRelax
namespace Go.Proofs.Ytclkgfcehmmgaaa
open Go.RowKit Plain
set_option linter.unusedVariables false
set_option linter.unusedSimpArgs false
attribute [local go_sem ↓] Go.wp_at_zero Go.wp_at_succ

def okP (ev : Int) (l : List Q4) (lg q : Int) : Bool := arcsB ev l && fracB lg q
def MIsP (ev : Int) (l : List Q4) (lg q : Int) : Bool × Bool := if okP ev l lg q then (fixA (asQ lg q l) ev.toNat, true) else (false, false)
theorem MIsP_no {ev : Int} {l : List Q4} {lg q : Int} (h : okP ev l lg q = false) : MIsP ev l lg q = (false, false) := by rw [MIsP, h]; rfl
theorem MIsP_yes {ev : Int} {l : List Q4} {lg q : Int} (h : okP ev l lg q = true) : MIsP ev l lg q = (fixA (asQ lg q l) ev.toNat, true) := by rw [MIsP, h]; rfl
theorem okP_parts {ev : Int} {l : List Q4} {lg q : Int} (h : okP ev l lg q = true) : ∃ n : Nat, ev = n ∧ 1 ≤ n ∧ n ≤ 12 ∧ l.length ≤ 32 ∧ (∀ a ∈ l, arcB (n : Int) a = true) ∧ (-1000000 ≤ lg ∧ lg ≤ 1000000) ∧ (0 ≤ q ∧ q ≤ 1000) := by
  simp only [okP, arcsB, fracB, Bool.and_eq_true, decide_eq_true_eq, List.all_eq_true] at h
  obtain ⟨⟨h1, h2, h3, h4⟩, h5, h6⟩ := h
  have a1 := inR_iff.1 h1
  have a2 := inR_iff.1 h5
  have a3 := inR_iff.1 h6
  refine ⟨ev.toNat, by omega, by omega, by omega, by omega, ?_, by omega, by omega⟩
  rw [show ((ev.toNat : Nat) : Int) = ev by omega]
  exact h4

theorem eqlNil_run (a : Option Addr) (n c : Nat) (w : World) : (binOp .eql 25 (.slice a n c) (.slice none 0 0)).run Try.prog w = .ok (.bool a.isNone) w := Lib.run_eql_slice_nil w _ _ _ _ _ _ _ Try.underlying25
set_option maxHeartbeats 2000000 in
set_option maxRecDepth 100000 in
theorem IsPeriod_any (w : World) (ev : Int) (_i : I64 ev) (v : Value) (l : List Q4) (_j : ∀ y ∈ l, y.I64) (_b : l.length ≤ 1048576) (s : Sl w 4 v l.length (q4s l)) (lg : Int) (_k : I64 lg) (q : Int) (_m : I64 q) :
    Calls Try.prog 17 #[.int .i64 ev, v, .int .i64 lg, .int .i64 q] w fun e w' => e = .returned (.tuple #[.bool (MIsP ev l lg q).1, .bool (MIsP ev l lg q).2]) ∧ Below w.heap.size w w' := by
  have A1 := hd (AreArcs_any ev v l w s)
  have A2 := hd (fun w' => isPeriodNumber_any lg q w')
  cases hok : okP ev l lg q with
  | false =>
    have H := hd (MIsP_no hok)
    rw [H.out]
    unfold okP at hok
    generalize arcsB ev l = b1 at *
    generalize fracB lg q = b2 at *
    cases b1 <;> cases b2
    all_goals first
      | (exfalso; simp at hok; done)
      | (clear hok
         go_enter Try.func17, Try.ntmps17
         go_wp2_with (first
           | (go_at_call 11; refine A1.out.mono ?_; rintro e w1 ⟨rfl, hb1⟩)
           | (go_at_call 42; refine (A2.out _).mono ?_; rintro e w' ⟨rfl, hw⟩; replace hw := hw.symm; subst hw))
         go_ret2
         exact ⟨rfl, hb1⟩)
  | true =>
    have H := hd (MIsP_yes hok)
    rw [H.out]
    obtain ⟨n, rfl, n1, n2, n3, n4, ⟨l0, l1⟩, ⟨q0, q1⟩⟩ := okP_parts hok
    have hab : arcsB n l = true ∧ fracB lg q = true := by simpa [okP] using hok
    rw [hab.1] at A1
    rw [hab.2] at A2
    have RX := hd (fun w' (h : Below w.heap.size w w') => relax_any n v l lg q w' n1 n2 (s.below h) n3 n4 l0 l1 q0 q1)
    simp only [Int.toNat_natCast]
    generalize fixA (asQ lg q l) n = fx at *
    clear hok hab n4 _j s H
    have EN := eqlNil_run
    go_enter Try.func17, Try.ntmps17
    cases fx with
    | true =>
      go_wp2_with (first
        | (go_at_call 11; refine A1.out.mono ?_; rintro e w1 ⟨rfl, hb1⟩)
        | (go_at_call 42; refine (A2.out _).mono ?_; rintro e w' ⟨rfl, hw⟩; replace hw := hw.symm; subst hw)
        | (go_at_call 32; refine (RX.out _ hb1).mono ?_; rintro e w2 ⟨hb2, ⟨_, u, rfl, _⟩ | ⟨h, _⟩⟩; rotate_left; (cases h)))
      go_ret2
      exact ⟨rfl, below_tr hb2 hb1⟩
    | false =>
      go_wp2_with (first
        | (go_at_call 11; refine A1.out.mono ?_; rintro e w1 ⟨rfl, hb1⟩)
        | (go_at_call 42; refine (A2.out _).mono ?_; rintro e w' ⟨rfl, hw⟩; replace hw := hw.symm; subst hw)
        | (go_at_call 32; refine (RX.out _ hb1).mono ?_; rintro e w2 ⟨hb2, ⟨h, _⟩ | ⟨_, u, g, m, c, rfl, _⟩⟩; (cases h)))
      go_ret2
      exact ⟨rfl, below_tr hb2 hb1⟩

end Go.Proofs.Ytclkgfcehmmgaaa
