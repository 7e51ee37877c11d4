/- TimesOf of the program: a contract (cut from the law's text). -/
import Derived.Test.YtclkgfcehmmgaaaProg
import Derived.Test.YtclkgfcehmmgaaaSlice
import Derived.Test.YtclkgfcehmmgaaaQSlice
import Derived.Test.YtclkgfcehmmgaaaIsPer
import Derived.Test.YtclkgfcehmmgaaaMarked
namespace Go.Proofs.Ytclkgfcehmmgaaa.TimI
open Go.RowKit Go.Proofs.Ytclkgfcehmmgaaa Plain
set_option linter.unusedVariables false
set_option linter.unusedSimpArgs false
attribute [local go_sem ↓] Go.wp_at_zero Go.wp_at_succ

def okT (ev : Int) (l : List Q4) (lg q : Int) : Bool := okP ev l lg q && (fixA (asQ lg q l) ev.toNat && fixA (asQ 0 1 (bareOf l)) ev.toNat)
def M (ev : Int) (l : List Q4) (lg q : Int) : List Int × Bool := if okT ev l lg q then (tmA (asQ lg q l) ev.toNat (ev.toNat - 1), true) else ([], false)
theorem M_no {ev : Int} {l : List Q4} {lg q : Int} (h : okT ev l lg q = false) : M ev l lg q = ([], false) := by rw [M, h]; rfl
theorem M_yes {ev : Int} {l : List Q4} {lg q : Int} (h : okT ev l lg q = true) : M ev l lg q = (tmA (asQ lg q l) ev.toNat (ev.toNat - 1), true) := by rw [M, h]; rfl
theorem len_ok (ev : Int) (_i : I64 ev) (l : List Q4) (_j : ∀ y ∈ l, y.I64) (_b : l.length ≤ 1048576) (lg : Int) (_k : I64 lg) (q : Int) (_m : I64 q) : (M ev l lg q).1.length ≤ 1048576 := by
  cases h : okT ev l lg q with
  | false => rw [M_no h]; simp
  | true =>
    rw [M_yes h]
    simp only [okT, Bool.and_eq_true] at h
    obtain ⟨n, rfl, n1, n2, _⟩ := okP_parts h.1
    simp only [tmA_len, Int.toNat_natCast]
    omega

set_option maxHeartbeats 2000000 in
set_option maxRecDepth 100000 in
theorem impl_any (w : World) (ev : Int) (_i : I64 ev) (v : Value) (l : List Q4) (_j : ∀ y ∈ l, y.I64) (_b : l.length ≤ 1048576) (s : Sl w 4 v l.length (q4s l)) (lg : Int) (_k : I64 lg) (q : Int) (_m : I64 q) :
    Calls Try.prog 18 #[.int .i64 ev, v, .int .i64 lg, .int .i64 q] w (OutL 2 1 (M ev l lg q).1.length ((M ev l lg q).1.map vi) (fun u => .tuple #[u, .bool (M ev l lg q).2]) w) := by
  have A1 := hd (IsPeriod_any w ev _i v l _j _b s lg _k q _m)
  cases hok : okP ev l lg q with
  | false =>
    have H := hd (M_no (show okT ev l lg q = false by rw [okT, hok]; rfl))
    rw [H.out]
    rw [MIsP_no hok] at A1
    clear hok
    go_enter Try.func18, Try.ntmps18
    go_wp2_with (go_at_call 17; refine A1.out.mono ?_; rintro e w1 ⟨rfl, hb1⟩)
    go_ret2
    exact ⟨_, rfl, World.ownsRow_nil _ _ _ _, hb1⟩
  | true =>
    rw [MIsP_yes hok] at A1
    obtain ⟨n, rfl, n1, n2, n3, n4, ⟨l0, l1⟩, ⟨q0, q1⟩⟩ := okP_parts hok
    simp only [Int.toNat_natCast] at A1
    have RX := hd (fun w' (h : Below w.heap.size w w') => relax_any n v l lg q w' n1 n2 (s.below h) n3 n4 l0 l1 q0 q1)
    have MK := hd (fun w' (h : Below w.heap.size w w') => areMarked_any n v l w' n1 n2 (s.below h) n3 n4)
    cases hfx : fixA (asQ lg q l) n with
    | false =>
      have H := hd (M_no (show okT n l lg q = false by rw [okT, hok, Int.toNat_natCast, hfx]; rfl))
      rw [H.out]
      rw [hfx] at A1
      clear hok hfx RX MK s _j n4
      go_enter Try.func18, Try.ntmps18
      go_wp2_with (go_at_call 17; refine A1.out.mono ?_; rintro e w1 ⟨rfl, hb1⟩)
      go_ret2
      exact ⟨_, rfl, World.ownsRow_nil _ _ _ _, hb1⟩
    | true =>
      rw [hfx] at A1
      cases hmk : fixA (asQ 0 1 (bareOf l)) n with
      | false =>
        have H := hd (M_no (show okT n l lg q = false by rw [okT, hok, Int.toNat_natCast, hfx, hmk]; rfl))
        rw [H.out]
        rw [hmk] at MK
        clear hok hfx hmk RX s _j n4
        go_enter Try.func18, Try.ntmps18
        go_wp2_with (first
          | (go_at_call 17; refine A1.out.mono ?_; rintro e w1 ⟨rfl, hb1⟩)
          | (go_at_call 31; refine (MK.out _ hb1).mono ?_; rintro e w2 ⟨rfl, hb2⟩))
        go_ret2
        exact ⟨_, rfl, World.ownsRow_nil _ _ _ _, below_tr hb2 hb1⟩
      | true =>
        have H := hd (M_yes (show okT n l lg q = true by rw [okT, hok, Int.toNat_natCast, hfx, hmk]; rfl))
        rw [H.out]
        rw [hmk] at MK
        rw [hfx] at RX
        simp only [Int.toNat_natCast, tmA_len]
        generalize tmA (asQ lg q l) n (n - 1) = tm at *
        clear hok hfx hmk s _j n4 H
        go_enter Try.func18, Try.ntmps18
        go_wp2_with (first
          | (go_at_call 17; refine A1.out.mono ?_; rintro e w1 ⟨rfl, hb1⟩)
          | (go_at_call 31; refine (MK.out _ hb1).mono ?_; rintro e w2 ⟨rfl, hb2⟩)
          | (go_at_call 32; refine (RX.out _ (below_tr hb2 hb1)).mono ?_; rintro e w3 ⟨hb3, ⟨_, u, rfl, ho3⟩ | ⟨h, _⟩⟩; rotate_left; (cases h)))
        go_ret2
        exact ⟨u, rfl, own_mono ho3 (Nat.le_trans hb1.size hb2.size), below_tr hb3 (below_tr hb2 hb1)⟩
end Go.Proofs.Ytclkgfcehmmgaaa.TimI
