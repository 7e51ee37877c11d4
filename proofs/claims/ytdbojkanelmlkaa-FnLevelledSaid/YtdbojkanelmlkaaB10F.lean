/- The number that the laws take from a place of the bytes, exactly: a contract. -/
import Derived.Test.YtdbojkanelmlkaaProg
import Derived.Test.YtdbojkanelmlkaaSrcI
namespace Go.Proofs.Ytdbojkanelmlkaa
open Go.RowKit Plain
set_option linter.unusedVariables false
set_option linter.unusedSimpArgs false
attribute [local go_sem ↓] Go.wp_at_zero Go.wp_at_succ
/-- the number at place k of the bytes, below n -/
def b10F (xs : List Nat) (k n : Nat) : Nat := if k < xs.length then xs.getD k 0 % n else (k * 37 + 11) % n
theorem b10F_lt (xs : List Nat) (k : Nat) {n : Nat} (h : 0 < n) : b10F xs k n < n := by
  unfold b10F; split <;> exact Nat.mod_lt _ h
set_option maxHeartbeats 1000000 in
theorem b10At_is (v : Value) (xs : List Nat) (hx : ∀ x ∈ xs, x < 256) (k n : Nat) (hn : 1 ≤ n) (hn2 : n ≤ 1000) (hk : k ≤ 1000) (w : World) (hs : Sl w 1 v xs.length (bys xs)) :
    Calls Try.prog 5 #[v, .int .i64 k, .int .i64 n] w fun r w' => r = .returned (.int .i64 (b10F xs k n : Nat)) ∧ w' = w := by
  obtain ⟨A, cap, rfl, hcap, hr⟩ := hs
  have hm := hr.2.1
  unfold maxLen at hm
  rcases Nat.lt_or_ge 1 n with h1 | h1
  · have g1 : ¬ ((n : Int) ≤ 1) := by omega
    have i4 : ¬ ((n : Int) = 0) := by omega
    by_cases hlt : k < xs.length
    · obtain ⟨b, off, rfl, hc⟩ := hr.2.2 (by omega)
      have hc2 := hc k (.int .u8 (xs[k] : Int)) (by simp [bys, hlt])
      have hb := hx _ (List.getElem_mem hlt)
      have HF := hd (show b10F xs k n = xs[k] % n by rw [b10F, if_pos hlt, List.getD_eq_getElem?_getD, List.getElem?_eq_getElem hlt]; rfl)
      obtain ⟨y, hy⟩ : ∃ y, y = xs[k] := ⟨_, rfl⟩
      rw [← hy] at hc2 hb HF
      clear hc hr hy
      generalize b10F xs k n = res at *
      generalize xs.length = m at *
      have i1 : (0 : Int) ≤ (k : Int) := by omega
      have i2 : (k : Int) < (m : Int) := by omega
      have Q := hd (show (y : Int).tmod (n : Int) = ((y % n : Nat) : Int) by rw [Int.tmod_eq_emod_of_nonneg (by omega)]; push_cast; rfl)
      go_enter Try.func5, Try.ntmps5
      go_wp2
      go_ret
      refine ⟨?_, rfl⟩
      rw [HF.out]
      push_cast; rfl
    · have i3 : ¬ ((k : Int) < (xs.length : Int)) := by omega
      have HF := hd (show b10F xs k n = (k * 37 + 11) % n by rw [b10F, if_neg hlt])
      have w1 : IntKind.i64.wrap ((k : Int) * 37) = (k : Int) * 37 := IntWalk.i64_in _ (by omega)
      have w2 : IntKind.i64.wrap ((k : Int) * 37 + 11) = (k : Int) * 37 + 11 := IntWalk.i64_in _ (by omega)
      have Q := hd (show ((k : Int) * 37 + 11).tmod (n : Int) = (((k * 37 + 11) % n : Nat) : Int) by rw [Int.tmod_eq_emod_of_nonneg (by omega)]; push_cast; rfl)
      clear hr
      generalize b10F xs k n = res at *
      generalize xs.length = m at *
      go_enter Try.func5, Try.ntmps5
      go_wp2
      go_ret
      refine ⟨?_, rfl⟩
      rw [HF.out]
      push_cast; rfl
  · obtain rfl : n = 1 := by omega
    have HF := hd (show b10F xs k 1 = 0 by have := b10F_lt xs k (n := 1) (by omega); omega)
    clear hr
    generalize b10F xs k 1 = res at *
    generalize xs.length = m at *
    go_enter Try.func5, Try.ntmps5
    go_wp2
    go_ret
    refine ⟨?_, rfl⟩
    rw [HF.out]
    rfl
end Go.Proofs.Ytdbojkanelmlkaa
