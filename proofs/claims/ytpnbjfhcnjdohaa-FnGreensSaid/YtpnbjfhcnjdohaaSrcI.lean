/- Numbers drawn from bytes: the source's box, next and pick of the reference's draws; b10At of the laws. -/
import Derived.Test.YtpnbjfhcnjdohaaProg
import Derived.Test.YtpnbjfhcnjdohaaBase
import Derived.Test.YtpnbjfhcnjdohaaSlice
import Derived.Test.YtpnbjfhcnjdohaaStoreBox
import Derived.Laws.BitsAllLaws
import Derived.Sort.AtCall
namespace Go.Proofs.Ytpnbjfhcnjdohaa
open Go.RowKit Plain
set_option linter.unusedVariables false
set_option linter.unusedSimpArgs false
attribute [local go_sem ↓] Go.wp_at_zero Go.wp_at_succ
/-- the cells of bytes -/
def bys (l : List Nat) : List Value := l.map (fun x : Nat => Value.int .u8 (x : Int))
def SomeB (w : World) (r : Ending) (w' : World) : Prop := ∃ b, r = .returned (.bool b) ∧ w' = w
def SomeN (n : Nat) (w : World) (r : Ending) (w' : World) : Prop := ∃ q : Nat, q < n ∧ r = .returned (.int .i64 q) ∧ w' = w
set_option maxHeartbeats 1000000 in
theorem b10Long_any (v0 v1 : Value) (x0 x1 : List Nat) (w : World) (s0 : Sl w 1 v0 x0.length (bys x0)) (s1 : Sl w 1 v1 x1.length (bys x1)) :
    Calls Try.prog 4 #[v0, v1] w (SomeB w) := by
  obtain ⟨A0, c0, rfl, h0, r0⟩ := s0
  obtain ⟨A1, c1, rfl, h1, r1⟩ := s1
  have m0 := r0.2.1
  have m1 := r1.2.1
  unfold maxLen at m0 m1
  generalize x0.length = n0 at *
  generalize x1.length = n1 at *
  clear r0 r1
  by_cases g0 : (1048576 : Int) < (n0 : Int) <;> by_cases g1 : (1048576 : Int) < (n1 : Int)
  all_goals
    go_enter Try.func4, Try.ntmps4
    go_wp2
    go_ret
    exact ⟨_, rfl, rfl⟩
set_option maxHeartbeats 1000000 in
theorem b10At_any (v : Value) (xs : List Nat) (hx : ∀ x ∈ xs, x < 256) (k n : Nat) (hn : 2 ≤ n) (hn2 : n ≤ 1000) (hk : k ≤ 1000) (w : World) (hs : Sl w 1 v xs.length (bys xs)) :
    Calls Try.prog 5 #[v, .int .i64 k, .int .i64 n] w (SomeN n w) := by
  obtain ⟨A, cap, rfl, hcap, hr⟩ := hs
  have hm := hr.2.1
  unfold maxLen at hm
  have g1 : ¬ ((n : Int) ≤ 1) := by omega
  have i4 : ¬ ((n : Int) = 0) := by omega
  by_cases hlt : k < xs.length
  · obtain ⟨b, off, rfl, hc⟩ := hr.2.2 (by omega)
    have hc2 := hc k (.int .u8 (xs[k] : Int)) (by simp [bys, hlt])
    have hb := hx _ (List.getElem_mem hlt)
    obtain ⟨y, hy⟩ : ∃ y, y = xs[k] := ⟨_, rfl⟩
    rw [← hy] at hc2 hb
    clear hc hr hy
    generalize xs.length = m at *
    have i1 : (0 : Int) ≤ (k : Int) := by omega
    have i2 : (k : Int) < (m : Int) := by omega
    have i3 : ¬ ((m : Int) ≤ (k : Int)) := by omega
    have Q := hd (show (y : Int).tmod (n : Int) = ((y % n : Nat) : Int) by rw [Int.tmod_eq_emod_of_nonneg (by omega)]; push_cast; rfl)
    have Q2 := hd (Nat.mod_lt y (show 0 < n by omega))
    go_enter Try.func5, Try.ntmps5
    go_wp2
    go_ret
    refine ⟨y % n, Q2.out, ?_, rfl⟩
    push_cast; rfl
  · have i3 : (xs.length : Int) ≤ (k : Int) := by omega
    have i5 : ¬ ((k : Int) < (xs.length : Int)) := by omega
    clear hr
    generalize xs.length = m at *
    have Q := hd (show ((k : Int) * 37 + 11).tmod (n : Int) = (((k * 37 + 11) % n : Nat) : Int) by rw [Int.tmod_eq_emod_of_nonneg (by omega)]; push_cast; rfl)
    have Q2 := hd (Nat.mod_lt (k * 37 + 11) (show 0 < n by omega))
    go_enter Try.func5, Try.ntmps5
    go_wp2
    go_ret
    refine ⟨(k * 37 + 11) % n, Q2.out, ?_, rfl⟩
    push_cast; rfl
end Go.Proofs.Ytpnbjfhcnjdohaa
