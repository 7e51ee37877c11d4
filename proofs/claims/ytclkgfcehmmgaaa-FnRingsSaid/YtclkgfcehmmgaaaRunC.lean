/- RunArcs: contracts (cut from the law's text). -/
import Derived.Test.YtclkgfcehmmgaaaProg
import Derived.Test.YtclkgfcehmmgaaaSlice
import Derived.Test.YtclkgfcehmmgaaaQSlice
import Derived.Test.YtclkgfcehmmgaaaRunI
import Derived.Test.YtclkgfcehmmgaaaRunS
namespace Go.Proofs.Ytclkgfcehmmgaaa.RunC
open Go.RowKit Go.Proofs.Ytclkgfcehmmgaaa Plain
set_option linter.unusedVariables false
set_option linter.unusedSimpArgs false
attribute [local go_sem ↓] Go.wp_at_zero Go.wp_at_succ

def okA (ev : Int) (l : List Q4) (rd : Int) : Bool := arcsB ev l && (inR rd 1 20 && fixA (asQ 0 1 (bareOf l)) ev.toNat)
def M (ev : Int) (l : List Q4) (rd : Int) : List Int × Bool := if okA ev l rd then (outR l ev.toNat rd.toNat rd.toNat, true) else ([], false)
theorem M_no {ev : Int} {l : List Q4} {rd : Int} (h : okA ev l rd = false) : M ev l rd = ([], false) := by rw [M, h]; rfl
theorem M_yes {ev : Int} {l : List Q4} {rd : Int} (h : okA ev l rd = true) : M ev l rd = (outR l ev.toNat rd.toNat rd.toNat, true) := by rw [M, h]; rfl
theorem arcs_parts {ev : Int} {l : List Q4} (h : arcsB ev l = true) : ∃ n : Nat, ev = n ∧ 1 ≤ n ∧ n ≤ 12 ∧ l.length ≤ 32 ∧ (∀ a ∈ l, arcB (n : Int) a = true) := by
  simp only [arcsB, Bool.and_eq_true, decide_eq_true_eq, List.all_eq_true] at h
  obtain ⟨h1, h2, h3, h4⟩ := h
  have a1 := inR_iff.1 h1
  refine ⟨ev.toNat, by omega, by omega, by omega, by omega, ?_⟩
  rw [show ((ev.toNat : Nat) : Int) = ev by omega]
  exact h4
theorem len_ok (ev : Int) (_i : I64 ev) (l : List Q4) (_j : ∀ y ∈ l, y.I64) (_b : l.length ≤ 1048576) (rd : Int) (_k : I64 rd) : (M ev l rd).1.length ≤ 1048576 := by
  cases h : okA ev l rd with
  | false => rw [M_no h]; simp
  | true =>
    rw [M_yes h]
    simp only [okA, Bool.and_eq_true] at h
    obtain ⟨n, rfl, n1, n2, _⟩ := arcs_parts h.1
    have := inR_iff.1 h.2.1
    simp only [outR_len, Int.toNat_natCast]
    have : rd.toNat * n ≤ 20 * 12 := Nat.mul_le_mul (by omega) n2
    omega

set_option maxHeartbeats 2000000 in
set_option maxRecDepth 100000 in
theorem impl_any (w : World) (ev : Int) (_i : I64 ev) (v : Value) (l : List Q4) (_j : ∀ y ∈ l, y.I64) (_b : l.length ≤ 1048576) (s : Sl w 4 v l.length (q4s l)) (rd : Int) (_k : I64 rd) :
    Calls Try.prog 13 #[.int .i64 ev, v, .int .i64 rd] w (OutL 2 1 (M ev l rd).1.length ((M ev l rd).1.map vi) (fun u => .tuple #[u, .bool (M ev l rd).2]) w) := by
  have A1 := hd (AreArcs_any ev v l w s)
  have A2 := hd (fun w' => within_any rd 1 20 w')
  cases hab : arcsB ev l with
  | false =>
    have H := hd (M_no (show okA ev l rd = false by rw [okA, hab]; rfl))
    rw [H.out]
    rw [hab] at A1
    clear hab
    go_enter Try.func13, Try.ntmps13
    go_wp2_with (go_at_call 11; refine A1.out.mono ?_; rintro e w1 ⟨rfl, hb1⟩)
    go_ret2
    exact ⟨_, rfl, World.ownsRow_nil _ _ _ _, hb1⟩
  | true =>
    obtain ⟨n, rfl, n1, n2, n3, n4⟩ := arcs_parts hab
    cases hin : inR rd 1 20 with
    | false =>
      have H := hd (M_no (show okA n l rd = false by rw [okA, hab, hin]; rfl))
      rw [H.out]
      rw [hab] at A1
      rw [hin] at A2
      clear hab hin n4 s _j
      go_enter Try.func13, Try.ntmps13
      go_wp2_with (first
        | (go_at_call 11; refine A1.out.mono ?_; rintro e w1 ⟨rfl, hb1⟩)
        | (go_at_call 36; refine (A2.out _).mono ?_; rintro e w' ⟨rfl, hw⟩; subst hw))
      go_ret2
      exact ⟨_, rfl, World.ownsRow_nil _ _ _ _, hb1⟩
    | true =>
      cases hmk : fixA (asQ 0 1 (bareOf l)) n with
      | false =>
        have H := hd (M_no (show okA n l rd = false by rw [okA, hab, hin, Int.toNat_natCast, hmk]; rfl))
        rw [H.out]
        have MK := hd (fun w' (h : Below w.heap.size w w') => areMarked_any n v l w' n1 n2 (s.below h) n3 n4)
        rw [hmk] at MK
        rw [hab] at A1
        rw [hin] at A2
        clear hab hin hmk n4 s _j
        go_enter Try.func13, Try.ntmps13
        go_wp2_with (first
          | (go_at_call 11; refine A1.out.mono ?_; rintro e w1 ⟨rfl, hb1⟩)
          | (go_at_call 36; refine (A2.out _).mono ?_; rintro e w' ⟨rfl, hw⟩; subst hw)
          | (go_at_call 31; refine (MK.out _ hb1).mono ?_; rintro e w2 ⟨rfl, hb2⟩))
        go_ret2
        exact ⟨_, rfl, World.ownsRow_nil _ _ _ _, below_tr hb2 hb1⟩
      | true =>
        obtain ⟨R, rfl⟩ : ∃ R : Nat, rd = R := ⟨rd.toNat, by have := inR_iff.1 hin; omega⟩
        have hr := inR_iff.1 hin
        rw [M_yes (show okA n l R = true by rw [okA, hab, hin, Int.toNat_natCast, hmk]; rfl)]
        simp only [Int.toNat_natCast, outR_len]
        exact RunArcs_yes n R v l w n1 n2 (by omega) (by omega) s n3 n4 hab hmk hin

set_option maxHeartbeats 2000000 in
set_option maxRecDepth 100000 in
theorem spec_any (w : World) (ev : Int) (_i : I64 ev) (v : Value) (l : List Q4) (_j : ∀ y ∈ l, y.I64) (_b : l.length ≤ 1048576) (s : Sl w 4 v l.length (q4s l)) (rd : Int) (_k : I64 rd) :
    Calls Try.prog 14 #[.int .i64 ev, v, .int .i64 rd] w (OutL 2 1 (M ev l rd).1.length ((M ev l rd).1.map vi) (fun u => .tuple #[u, .bool (M ev l rd).2]) w) := by
  have A1 := hd (l05Arcs_any ev v l w s)
  have A2 := hd (fun w' => l00In_any rd 1 20 w')
  cases hab : arcsB ev l with
  | false =>
    have H := hd (M_no (show okA ev l rd = false by rw [okA, hab]; rfl))
    rw [H.out]
    rw [hab] at A1
    clear hab
    go_enter Try.func14, Try.ntmps14
    go_wp2_with (go_at_call 28; refine A1.out.mono ?_; rintro e w1 ⟨rfl, hb1⟩)
    go_ret2
    exact ⟨_, rfl, World.ownsRow_nil _ _ _ _, hb1⟩
  | true =>
    obtain ⟨n, rfl, n1, n2, n3, n4⟩ := arcs_parts hab
    have MK := hd (fun w' (h : Below w.heap.size w w') => l05Marked_any n v l w' n1 n2 (s.below h) n3 n4)
    cases hmk : fixA (asQ 0 1 (bareOf l)) n with
    | false =>
      have H := hd (M_no (show okA n l rd = false by rw [okA, hab, Int.toNat_natCast, hmk, Bool.and_false]; rfl))
      rw [H.out]
      rw [hmk] at MK
      rw [hab] at A1
      clear hab hmk n4 s _j
      go_enter Try.func14, Try.ntmps14
      go_wp2_with (first
        | (go_at_call 28; refine A1.out.mono ?_; rintro e w1 ⟨rfl, hb1⟩)
        | (go_at_call 29; refine (MK.out _ hb1).mono ?_; rintro e w2 ⟨rfl, hb2⟩))
      go_ret2
      exact ⟨_, rfl, World.ownsRow_nil _ _ _ _, below_tr hb2 hb1⟩
    | true =>
      cases hin : inR rd 1 20 with
      | false =>
        have H := hd (M_no (show okA n l rd = false by rw [okA, hab, hin]; rfl))
        rw [H.out]
        rw [hmk] at MK
        rw [hab] at A1
        rw [hin] at A2
        clear hab hin hmk n4 s _j
        go_enter Try.func14, Try.ntmps14
        go_wp2_with (first
          | (go_at_call 28; refine A1.out.mono ?_; rintro e w1 ⟨rfl, hb1⟩)
          | (go_at_call 29; refine (MK.out _ hb1).mono ?_; rintro e w2 ⟨rfl, hb2⟩)
          | (go_at_call 39; refine (A2.out _).mono ?_; rintro e w' ⟨rfl, hw⟩; subst hw))
        go_ret2
        exact ⟨_, rfl, World.ownsRow_nil _ _ _ _, below_tr hb2 hb1⟩
      | true =>
        obtain ⟨R, rfl⟩ : ∃ R : Nat, rd = R := ⟨rd.toNat, by have := inR_iff.1 hin; omega⟩
        have hr := inR_iff.1 hin
        rw [M_yes (show okA n l R = true by rw [okA, hab, hin, Int.toNat_natCast, hmk]; rfl)]
        simp only [Int.toNat_natCast, outR_len]
        exact specRunArcs_yes n R v l w n1 n2 (by omega) (by omega) s n3 n4 hab hmk hin
end Go.Proofs.Ytclkgfcehmmgaaa.RunC
