/- LeastHead of the program and of the reference, where the lists are valid: contracts. -/
import Derived.Test.YtnfgnlhpjhndfaaProg
import Derived.Test.YtnfgnlhpjhndfaaBlkT
import Derived.Test.YtnfgnlhpjhndfaaRuns
import Derived.Test.YtnfgnlhpjhndfaaSlice
namespace Go.Proofs.Ytnfgnlhpjhndfaa
open Go.RowKit Plain
set_option linter.unusedVariables false
set_option linter.unusedSimpArgs false
attribute [local go_sem ↓] Go.wp_at_zero Go.wp_at_succ
theorem getD_bd {xs : List Int} {B : Int} (hB : 0 ≤ B) (h : ∀ x ∈ xs, 0 ≤ x ∧ x ≤ B) (k : Nat) : 0 ≤ xs.getD k 0 ∧ xs.getD k 0 ≤ B := by
  rw [List.getD_eq_getElem?_getD]
  rcases Nat.lt_or_ge k xs.length with hk | hk
  · rw [List.getElem?_eq_getElem hk]
    exact h _ (List.getElem_mem hk)
  · rw [List.getElem?_eq_none hk]
    exact ⟨Int.le_refl 0, hB⟩
theorem many_of {xs : List Int} {B : Int} (h1 : 1 ≤ xs.length) (h2 : xs.length ≤ 12) (hB : B ≤ 1000) (h : ∀ x ∈ xs, 0 ≤ x ∧ x ≤ B) : manyIn xs 1 12 0 1000 = true := by
  simp only [manyIn, Bool.and_eq_true, decide_eq_true_eq, List.all_eq_true]
  refine ⟨by omega, by omega, fun x hx => ?_⟩
  have := h x hx
  exact inR_iff.2 ⟨by omega, by omega⟩
set_option maxHeartbeats 2000000 in
set_option maxRecDepth 100000 in
theorem implHead_any (v0 v1 : Value) (a b : List Int) (w : World) (s0 : Sl w 1 v0 a.length (a.map vi)) (s1 : Sl w 1 v1 b.length (b.map vi)) (h1 : 1 ≤ a.length) (h2 : a.length ≤ 12) (hl : b.length = a.length) (ha : ∀ x ∈ a, 0 ≤ x ∧ x ≤ 8) (hb : ∀ x ∈ b, 0 ≤ x ∧ x ≤ 8) :
    Calls Try.prog 6 #[v0, v1] w fun r w' => r = .returned (.tuple #[.int .i64 (headI a b a.length), .bool true]) ∧ Below w.heap.size w w' := by
  have A1 := hd (many_of h1 h2 (by omega) ha ▸ areRuns_any v0 a w s0)
  have A2 := hd (many_of (by omega) (by omega) (by omega) hb ▸ areRuns_any v1 b w s1)
  have HA := getD_bd (by omega) ha
  have HB := getD_bd (by omega) hb
  have P1 := hd (preT_bd HA)
  have P2 := hd (preT_bd HB)
  have P3 := hd (headI_bd HA HB)
  have HA' := hd HA
  have HB' := hd HB
  obtain ⟨V0, c0, rfl, q0, r0⟩ := s0
  obtain ⟨V1, c1, rfl, q1, r1⟩ := s1
  rw [hl] at r1 q1 A2 ⊢
  have m0 := r0.2.1
  unfold maxLen at m0
  clear ha hb HA HB
  generalize hn : a.length = n at *
  clear hn hl
  obtain ⟨b0, o0, rfl, hc0⟩ := r0.int (show 0 < n by omega)
  rw [Nat.add_zero] at hc0
  have e0 : a.getD 0 0 = headI a b 0 := rfl
  rw [e0] at hc0
  go_enter Try.func6, Try.ntmps6
  go_wp2_with fail
  refine A1.out.mono ?_; rintro e w' ⟨rfl, hw⟩; subst hw
  go_wp2_with fail
  refine A2.out.mono ?_; rintro e w' ⟨rfl, hw⟩; subst hw
  go_wp2
  clear A1 A2 hc0 e0
  go_loopw [6, 7, 8, 31] (fun f s m i wr => ∃ k : Nat, k ≤ n ∧ i = .int .i64 k ∧ f = .int .i64 (preT a k) ∧ s = .int .i64 (preT b k) ∧ m = .int .i64 (headI a b k) ∧ wr = w) (fun _ _ _ i _ => n - (intOf i).toNat)
  case atStart => exact ⟨0, by omega, rfl, rfl, rfl, rfl, rfl⟩
  case round =>
    obtain ⟨k, hk, rfl, rfl, rfl, rfl, rfl⟩ := hrel
    by_cases hlt : k < n
    · obtain ⟨b2, o2, e2, hc⟩ := r0.int hlt
      obtain ⟨b1, o1, rfl, hd1⟩ := r1.int hlt
      cases e2
      have E1 := hd (show preT a (k + 1) = preT a k + a.getD k 0 from rfl)
      have E2 := hd (show preT b (k + 1) = preT b k + b.getD k 0 from rfl)
      have E3 := hd (show headI a b (k + 1) = max (headI a b k) (preT a (k + 1) - preT b k) from rfl)
      have p1 := P1.out k
      have p2 := P2.out k
      have p3 := P3.out k
      have x1 := HA'.out k
      have x2 := HB'.out k
      clear r0 r1 P1 P2 P3 HA' HB'
      generalize a.getD k 0 = x at *
      generalize b.getD k 0 = y at *
      obtain ⟨n1, hn1⟩ : ∃ n1, n1 = preT a (k + 1) := ⟨_, rfl⟩
      obtain ⟨n2, hn2⟩ : ∃ n2, n2 = preT b (k + 1) := ⟨_, rfl⟩
      obtain ⟨n3, hn3⟩ : ∃ n3, n3 = headI a b (k + 1) := ⟨_, rfl⟩
      rw [← hn1] at E1 E3
      rw [← hn2] at E2
      rw [← hn3] at E3
      have N1 := hd hn1
      have N2 := hd hn2
      have N3 := hd hn3
      clear hn1 hn2 hn3
      generalize preT a k = f at *
      generalize preT b k = s at *
      generalize headI a b k = m at *
      go_wp2
      go_roundw
      case rel => exact ⟨k + 1, by omega, by go_num, by rw [← N1.out, E1.out], by rw [← N2.out, E2.out], by rw [← N3.out, E3.out, E1.out]; congr 1; split <;> omega, by trivial⟩
      case measure => simp [intOf]; omega
    · have e : k = n := by omega
      subst e
      clear P1 P2 P3 HA' HB' r0 r1
      go_wp2
      go_ret2
      exact ⟨rfl, Below.refl _ _⟩
set_option maxHeartbeats 2000000 in
set_option maxRecDepth 100000 in
theorem specHead_any (v0 v1 : Value) (a b : List Int) (w : World) (s0 : Sl w 1 v0 a.length (a.map vi)) (s1 : Sl w 1 v1 b.length (b.map vi)) (h1 : 1 ≤ a.length) (h2 : a.length ≤ 12) (hl : b.length = a.length) (ha : ∀ x ∈ a, 0 ≤ x ∧ x ≤ 8) (hb : ∀ x ∈ b, 0 ≤ x ∧ x ≤ 8) :
    Calls Try.prog 8 #[v0, v1] w fun r w' => r = .returned (.tuple #[.int .i64 (headS a b a.length), .bool true]) ∧ Below w.heap.size w w' := by
  have A1 := hd (many_of h1 h2 (by omega) ha ▸ l05Runs_any v0 a w s0)
  have A2 := hd (many_of (by omega) (by omega) (by omega) hb ▸ l05Runs_any v1 b w s1)
  have HA := getD_bd (by omega) ha
  have HB := getD_bd (by omega) hb
  have P1 := hd (preT_bd HA)
  have P2 := hd (preT_bd HB)
  have HA' := hd HA
  have HB' := hd HB
  obtain ⟨V0, c0, rfl, q0, r0⟩ := s0
  obtain ⟨V1, c1, rfl, q1, r1⟩ := s1
  rw [hl] at r1 q1 A2 ⊢
  have m0 := r0.2.1
  unfold maxLen at m0
  clear ha hb HA HB
  generalize hn : a.length = n at *
  clear hn hl
  go_enter Try.func8, Try.ntmps8
  go_wp2_with fail
  refine A1.out.mono ?_; rintro e w' ⟨rfl, hw⟩; subst hw
  go_wp2_with fail
  refine A2.out.mono ?_; rintro e w' ⟨rfl, hw⟩; subst hw
  go_wp2
  clear A1 A2
  go_loopw [6, 7, 26] (fun m d i wr => ∃ k : Nat, k ≤ n ∧ i = .int .i64 k ∧ d = .int .i64 (preT a k - preT b k) ∧ m = .int .i64 (headS a b k) ∧ wr = w) (fun _ _ i _ => n - (intOf i).toNat)
  case atStart => exact ⟨0, by omega, rfl, rfl, rfl, rfl⟩
  case round =>
    obtain ⟨k, hk, rfl, rfl, rfl, rfl⟩ := hrel
    by_cases hlt : k < n
    · obtain ⟨b2, o2, rfl, hc⟩ := r0.int hlt
      obtain ⟨b1, o1, rfl, hd1⟩ := r1.int hlt
      have E1 := hd (show preT a (k + 1) = preT a k + a.getD k 0 from rfl)
      have E2 := hd (show preT b (k + 1) = preT b k + b.getD k 0 from rfl)
      have E3 := hd (show headS a b (k + 1) = if k = 0 ∨ headS a b k < preT a (k + 1) - preT b k then preT a (k + 1) - preT b k else headS a b k from rfl)
      have p1 := P1.out k
      have p2 := P2.out k
      have x1 := HA'.out k
      have x2 := HB'.out k
      clear r0 r1 P1 P2 HA' HB'
      generalize a.getD k 0 = x at *
      generalize b.getD k 0 = y at *
      obtain ⟨n1, hn1⟩ : ∃ n1, n1 = preT a (k + 1) := ⟨_, rfl⟩
      obtain ⟨n2, hn2⟩ : ∃ n2, n2 = preT b (k + 1) := ⟨_, rfl⟩
      obtain ⟨n3, hn3⟩ : ∃ n3, n3 = headS a b (k + 1) := ⟨_, rfl⟩
      rw [← hn1] at E1 E3
      rw [← hn2] at E2
      rw [← hn3] at E3
      have N1 := hd hn1
      have N2 := hd hn2
      have N3 := hd hn3
      clear hn1 hn2 hn3
      generalize preT a k = f at *
      generalize preT b k = s at *
      generalize headS a b k = m at *
      rcases Nat.eq_zero_or_pos k with h0 | h0
      · subst h0
        rw [Nat.add_zero] at hc hd1
        have E4 := hd (show n3 = n1 - s by rw [E3.out, if_pos (.inl rfl)])
        go_wp2
        go_roundw
        case rel => exact ⟨1, by omega, by go_num, by rw [← N1.out, ← N2.out, E1.out, E2.out]; congr 1; omega, by rw [← N3.out, E4.out, E1.out]; congr 1; omega, by trivial⟩
        case measure => simp [intOf]; omega
      · have hk0 : ¬ ((k : Int) = 0) := by omega
        by_cases hm : m < n1 - s
        · have E4 := hd (show n3 = n1 - s by rw [E3.out, if_pos (.inr hm)])
          have hm2 : m < f - s + x := by have := E1.out; omega
          go_wp2
          go_roundw
          case rel => exact ⟨k + 1, by omega, by go_num, by rw [← N1.out, ← N2.out, E1.out, E2.out]; congr 1; omega, by rw [← N3.out, E4.out, E1.out]; congr 1; omega, by trivial⟩
          case measure => simp [intOf]; omega
        · have E4 := hd (show n3 = m by rw [E3.out, if_neg (by omega)])
          have hm2 : ¬ (m < f - s + x) := by have := E1.out; omega
          go_wp2
          go_roundw
          case rel => exact ⟨k + 1, by omega, by go_num, by rw [← N1.out, ← N2.out, E1.out, E2.out]; congr 1; omega, by rw [← N3.out, E4.out], by trivial⟩
          case measure => simp [intOf]; omega
    · have e : k = n := by omega
      subst e
      clear P1 P2 HA' HB' r0 r1
      go_wp2
      go_ret2
      exact ⟨rfl, Below.refl _ _⟩
end Go.Proofs.Ytnfgnlhpjhndfaa
