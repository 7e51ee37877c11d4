/- SlowRing of the program. -/
import Derived.Test.YtclkgfcehmmgaaaProg
import Derived.Test.YtclkgfcehmmgaaaRingO
import Derived.Test.YtclkgfcehmmgaaaSlice
namespace Go.Proofs.Ytclkgfcehmmgaaa
open Go.RowKit Plain
set_option linter.unusedVariables false
set_option linter.unusedSimpArgs false
attribute [local go_sem ↓] Go.wp_at_zero Go.wp_at_succ
/-- the first size that has an answer -/
def firstS {α : Type} (f : Nat → Option α) : Nat → Nat → Option α
  | 0, _ => none
  | m + 1, s => match f s with
    | some x => some x
    | none => firstS f m (s + 1)
theorem firstS_at {α : Type} {f : Nat → Option α} {m s k : Nat} {x : α} (h : ∀ j, s ≤ j → j < s + k → f j = none) (hx : f (s + k) = some x) (hk : k < m) : firstS f m s = some x := by
  induction m generalizing s k with
  | zero => omega
  | succ m ih =>
    rw [firstS]
    cases k with
    | zero => rw [Nat.add_zero] at hx; rw [hx]
    | succ k =>
      rw [h s (Nat.le_refl _) (by omega)]
      exact ih (s := s + 1) (k := k) (fun j h1 h2 => h j (by omega) (by omega)) (by rw [← hx]; congr 1; omega) (by omega)
/-- the arcs of the first shortest ring with the greatest quotient -/
noncomputable def MSl (ev : Int) (l : List Q4) : List Int × Bool := if (MPer ev l).2.2 then (((firstS (ringF l (zP ev.toNat l)) ev.toNat 1).getD []).map (fun i : Nat => (i : Int)), true) else ([], false)
theorem MSl_no {ev : Int} {l : List Q4} (h : (MPer ev l).2.2 = false) : MSl ev l = ([], false) := by rw [MSl, h]; rfl
theorem MSl_yes {n s : Nat} {l : List Q4} {p : List Nat} (h : (MPer n l).2.2 = true) (s1 : 1 ≤ s) (s2 : s ≤ n) (hn : ∀ j, 1 ≤ j → j < s → ringF l (zP n l) j = none) (hp : ringF l (zP n l) s = some p) : MSl n l = (p.map (fun i : Nat => (i : Int)), true) := by
  have := firstS_at (f := ringF l (zP n l)) (m := n) (s := 1) (k := s - 1) (fun j h1 h2 => hn j h1 (by omega)) (by rw [show 1 + (s - 1) = s by omega]; exact hp) (by omega)
  rw [MSl, h, if_pos rfl, Int.toNat_natCast, this]
  rfl
theorem MPer_parts {ev : Int} {l : List Q4} (h : (MPer ev l).2.2 = true) : okR ev l = true ∧ fixA (asQ (-1) 1 l) ev.toNat = false := by
  rw [MPer] at h
  split at h
  · rename_i h1
    simpa using h1
  · cases h

theorem neqNilI_run (a : Option Addr) (n c : Nat) (w : World) : (binOp .neq 29 (.slice a n c) (.slice none 0 0)).run Try.prog w = .ok (.bool (!a.isNone)) w := run_neq_slice_nil_any w _ _ _ _ _ _ _ Try.underlying29
set_option maxHeartbeats 2000000 in
set_option maxRecDepth 100000 in
theorem SlowRing_any (w : World) (ev : Int) (_i : I64 ev) (v : Value) (l : List Q4) (_j : ∀ y ∈ l, y.I64) (_b : l.length ≤ 1048576) (s : Sl w 4 v l.length (q4s l)) :
    Calls Try.prog 10 #[.int .i64 ev, v] w (OutL 2 1 (MSl ev l).1.length ((MSl ev l).1.map vi) (fun u => .tuple #[u, .bool (MSl ev l).2]) w) := by
  have P1 := PeriodOf_any w ev _i v l _j _b s
  cases hk : (MPer ev l).2.2 with
  | false =>
    rw [MSl_no hk]
    rw [hk] at P1
    have P1 := hd P1
    clear hk
    go_enter Try.func10, Try.ntmps10
    go_wp2_with (go_at_call 9; refine P1.out.mono ?_; rintro e w1 ⟨rfl, hb1⟩)
    go_ret2
    exact ⟨_, rfl, World.ownsRow_nil _ _ _ _, hb1⟩
  | true =>
    obtain ⟨hok, hfx⟩ := MPer_parts hk
    have hab : arcsB ev l = true := by
      simp only [okR, Bool.and_eq_true] at hok
      exact hok.1
    obtain ⟨n, rfl, n1, n2, n3, n4⟩ := arcs_parts hab
    rw [Int.toNat_natCast] at hfx
    obtain ⟨⟨sz, z1, z2, z3⟩, _, ⟨l0, l1⟩, ⟨q0, q1⟩⟩ := slow_found n1 n2 n4 hok hfx
    rw [hk] at P1
    have P1 := hd P1
    have HY := hd (fun (s : Nat) (p : List Nat) (s1 : 1 ≤ s) (s2 : s ≤ n) hn hp => MSl_yes (n := n) (s := s) (l := l) (p := p) hk s1 s2 hn hp)
    have HZ3 := hd z3
    have RO := hd (fun (s' : Nat) (w' : World) (hb : Below w.heap.size w w') (s1 : 1 ≤ s') (s2 : s' ≤ 12) => ringOf_any l l.length s' (MPer n l).1 (MPer n l).2.1 w' v (s.below hb) rfl n3 (fun a ha => by
      have h := n4 a ha
      obtain ⟨a, b, c, d⟩ := a
      have h2 := arcB_iff.1 h
      exact arcB_iff.2 ⟨by omega, by omega, h2.2.2⟩) l0 l1 q0 q1 s1 s2)
    have HZP := hd (show (fun a : Q4 => (MPer n l).2.1 * a.c - (MPer n l).1 * a.d) = zP n l from rfl)
    have NQ := neqNilI_run
    clear hk hok hfx hab s z3 _j n4
    generalize (MPer (↑n) l).1 = lg at *
    generalize (MPer (↑n) l).2.1 = q at *
    go_enter Try.func10, Try.ntmps10
    go_wp2_with (go_at_call 9; refine P1.out.mono ?_; rintro e w1 ⟨rfl, hb1⟩)
    go_loopw [9] (fun sv wr => ∃ sn : Nat, 1 ≤ sn ∧ sn ≤ sz ∧ sv = .int .i64 sn ∧ Hid (∀ j, 1 ≤ j → j < sn → ringF l (zP n l) j = none) ∧ Hid (Below w.heap.size w wr)) (fun sv _ => sz + 1 - (intOf sv).toNat)
    case atStart => exact ⟨1, by omega, by omega, rfl, hd (fun j h1 h2 => by omega), hd hb1⟩
    case round =>
      obtain ⟨sn, a1, a2, rfl, hN, hB⟩ := hrel
      clear hb1
      go_wp2_with fail
      refine (RO.out sn wr hB.out a1 (by omega)).mono ?_
      rintro e w2 ⟨hb2, ⟨hnone, rfl⟩ | ⟨p, u, hp, rfl, ⟨g, c, rfl⟩, ho⟩⟩
      · rw [HZP.out] at hnone
        have hlt : sn < sz := by
          rcases Nat.lt_or_ge sn sz with h | h
          · exact h
          · obtain rfl : sn = sz := by omega
            exact absurd hnone HZ3.out
        have HN2 := hd (show ∀ j, 1 ≤ j → j < sn + 1 → ringF l (zP n l) j = none from fun j h1 h2 => by
          rcases Nat.lt_or_ge j sn with h | h
          · exact hN.out j h1 h
          · obtain rfl : j = sn := by omega
            exact hnone)
        have HB2 := hd (below_tr hb2 hB.out)
        clear hnone hb2
        go_wp2
        go_roundw
        case rel => exact ⟨sn + 1, by omega, by omega, by go_num, HN2, HB2⟩
        case measure => simp [intOf]; omega
      · rw [HZP.out] at hp
        have E := hd (HY.out sn p a1 (by omega) hN.out hp)
        have HO := hd (own_mono ho hB.out.size)
        have HB2 := hd (below_tr hb2 hB.out)
        clear hp ho hb2
        go_wp2
        go_ret2
        rw [E.out]
        refine ⟨_, rfl, ?_, HB2.out⟩
        have h := HO.out
        simpa [List.map_map, Function.comp_def] using h
end Go.Proofs.Ytclkgfcehmmgaaa
