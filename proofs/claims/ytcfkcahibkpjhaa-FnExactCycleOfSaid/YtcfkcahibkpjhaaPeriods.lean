/- Chapter 5: periods and tables. -/
import Derived.Test.YtcfkcahibkpjhaaNum
import Derived.Test.YtcfkcahibkpjhaaSlice
import Derived.Test.YtcfkcahibkpjhaaWords
namespace Go.Proofs.Ytcfkcahibkpjhaa
open Go.RowKit Plain
set_option linter.unusedVariables false
set_option linter.unusedSimpArgs false
attribute [local go_sem ↓] Go.wp_at_zero Go.wp_at_succ

/-- times of a table -/
def tableB (xs : List Int) (p : Int) : Bool := inR p 1 60 && manyIn xs 1 12 0 (p - 1)
theorem table_at {xs : List Int} {p : Int} (h : tableB xs p = true) (i : Nat) (hi : i < xs.length) : 0 ≤ xs.getD i 0 ∧ xs.getD i 0 ≤ 60 := by
  simp only [tableB, manyIn, Bool.and_eq_true, inR_iff, List.all_eq_true] at h
  have := h.2.2.2 xs[i] (List.getElem_mem _)
  rw [List.getD_eq_getElem?_getD, List.getElem?_eq_getElem hi]
  simp
  omega
theorem tmod_floor (a b : Int) (hb : 0 < b) : (a.tmod b + b) % b = a % b := by
  rw [Int.add_emod_right, Int.tmod_eq_emod]
  split
  · simp
  · have : (b.natAbs : Int) = b := by omega
    rw [this, show a % b - b = a % b + b * (-1) by omega, Int.add_mul_emod_self_left, Int.emod_emod]

set_option maxHeartbeats 400000 in
theorem floorMod_any (a b : Int) (w : World) (hb0 : 0 < b) (hb1 : b ≤ 1099511627776) (ha : I64 a) :
    Calls Try.prog 117 #[.int .i64 a, .int .i64 b] w fun r w' => r = .returned (.int .i64 (a % b)) ∧ w = w' := by
  obtain ⟨ha1, ha2⟩ := ha
  have h0 : ¬ b = 0 := by omega
  have h1 := Int.tmod_lt_of_pos a hb0
  have h2 : -b < a.tmod b := by have := Int.lt_tmod_of_pos a hb0; omega
  have Hm := hd (tmod_floor a b hb0)
  go_enter Try.func117, Try.ntmps117
  go_wp2
  go_ret
  exact ⟨ret_i64 Hm.out, rfl⟩

set_option maxHeartbeats 400000 in
theorem isPeriod_any (n : Int) (w : World) :
    Calls Try.prog 112 #[.int .i64 n] w fun r w' => r = .returned (.bool (inR n 1 60)) ∧ w = w' := by
  go_enter Try.func112, Try.ntmps112
  go_wp2_with (go_at_call 106; refine (within_any _ _ _ _).mono ?_; rintro e w' ⟨rfl, rfl⟩)
  go_ret
  exact ⟨rfl, rfl⟩

set_option maxHeartbeats 400000 in
theorem areEvents_any (n : Int) (w : World) :
    Calls Try.prog 111 #[.int .i64 n] w fun r w' => r = .returned (.bool (inR n 1 12)) ∧ w = w' := by
  go_enter Try.func111, Try.ntmps111
  go_wp2_with (go_at_call 106; refine (within_any _ _ _ _).mono ?_; rintro e w' ⟨rfl, rfl⟩)
  go_ret
  exact ⟨rfl, rfl⟩

set_option maxHeartbeats 400000 in
theorem l05Nodes_any (n : Int) (w : World) :
    Calls Try.prog 150 #[.int .i64 n] w fun r w' => r = .returned (.bool (inR n 1 12)) ∧ w = w' := by
  go_enter Try.func150, Try.ntmps150
  go_wp2_with (go_at_call 115; refine (l00In_any _ _ _ _).mono ?_; rintro e w' ⟨rfl, rfl⟩)
  go_ret
  exact ⟨rfl, rfl⟩

set_option maxHeartbeats 400000 in
theorem areTableTimes_any (v : Value) (xs : List Int) (p : Int) (w : World) (hs : Sl w 1 v xs.length (xs.map vi)) :
    Calls Try.prog 116 #[v, .int .i64 p] w fun r w' => r = .returned (.bool (tableB xs p)) ∧ w = w' := by
  cases hp : inR p 1 60 with
  | false =>
    have H := hd (show tableB xs p = false by rw [tableB, hp]; rfl)
    go_enter Try.func116, Try.ntmps116
    go_wp2_with (go_at_call 112; refine (isPeriod_any _ _).mono ?_; rintro e w' ⟨rfl, rfl⟩)
    go_ret
    exact ⟨ret_bool H.out.symm, rfl⟩
  | true =>
    have H := hd (show tableB xs p = manyIn xs 1 12 0 (p - 1) by rw [tableB, hp]; rfl)
    have hp' := inR_iff.1 hp
    obtain ⟨p1, p2⟩ := hp'
    go_enter Try.func116, Try.ntmps116
    go_wp2_with (first | (go_at_call 112; refine (isPeriod_any _ _).mono ?_; rintro e w' ⟨rfl, rfl⟩) | (go_at_call 139; refine (areMany_any _ xs _ _ _ _ _ hs).mono ?_; rintro e w' ⟨rfl, rfl⟩))
    go_ret
    exact ⟨ret_bool H.out.symm, rfl⟩

set_option maxHeartbeats 400000 in
theorem l05Times_any (v : Value) (xs : List Int) (p : Int) (w : World) (hs : Sl w 1 v xs.length (xs.map vi)) (hp1 : 1 ≤ p) (hp2 : p ≤ 60) :
    Calls Try.prog 151 #[v, .int .i64 p] w fun r w' => r = .returned (.bool (xs.all (inR · 0 (p - 1)))) ∧ w = w' := by
  obtain ⟨A, cap, rfl, hcap, hr⟩ := hs
  have hm := hr.2.1
  unfold maxLen at hm
  generalize hn : xs.length = n at *
  have Hn := hd hn
  clear hn
  go_enter Try.func151, Try.ntmps151
  go_wp2
  go_loop [8] (fun i => ∃ k : Nat, k ≤ n ∧ i = .int .i64 k ∧ Hid ((xs.take k).all (inR · 0 (p - 1)) = true)) (fun i => n - (intOf i).toNat)
  case atStart => exact ⟨0, by omega, rfl, by simp [Hid]⟩
  case round =>
    obtain ⟨k, hk, rfl, ha⟩ := hrel
    by_cases hlt : k < n
    · obtain ⟨b, off, rfl, hc⟩ := hr.int hlt
      go_wp2_with (go_at_call 115; refine (l00In_any _ _ _ _).mono ?_; rintro e w' ⟨rfl, rfl⟩)
      · have h : (!inR (xs[k]?.getD 0) 0 (p - 1)) = true := by assumption
        have hl : k < xs.length := by have := Hn.out; omega
        rw [getD_of hl] at h
        go_ret
        exact ⟨ret_bool (all_false (p := (inR · 0 (p - 1))) hl (by simpa using h)).symm, rfl⟩
      · have h : (!inR (xs[k]?.getD 0) 0 (p - 1)) = false := by assumption
        have hl : k < xs.length := by have := Hn.out; omega
        rw [getD_of hl] at h
        go_round
        case rel => exact ⟨k + 1, by omega, by go_num, all_take_succ (p := (inR · 0 (p - 1))) ha.out hl (by simpa using h)⟩
        case measure => simp [intOf]; omega
    · go_wp2
      go_ret
      exact ⟨ret_bool (all_whole ha.out (by have := Hn.out; omega)).symm, rfl⟩

set_option maxHeartbeats 400000 in
theorem l05Table_any (v : Value) (xs : List Int) (p : Int) (w : World) (hs : Sl w 1 v xs.length (xs.map vi)) :
    Calls Try.prog 114 #[v, .int .i64 p] w fun r w' => r = .returned (.bool (tableB xs p)) ∧ w = w' := by
  have hs' := hs
  obtain ⟨A, cap, rfl, hcap, hr⟩ := hs
  cases hp : inR p 1 60 with
  | false =>
    have H := hd (show tableB xs p = false by rw [tableB, hp]; rfl)
    go_enter Try.func114, Try.ntmps114
    go_wp2_with (go_at_call 115; refine (l00In_any _ _ _ _).mono ?_; rintro e w' ⟨rfl, rfl⟩)
    go_ret
    exact ⟨ret_bool H.out.symm, rfl⟩
  | true =>
    have hp' := inR_iff.1 hp
    obtain ⟨p1, p2⟩ := hp'
    by_cases h1 : (1 : Int) ≤ xs.length
    · by_cases h2 : (xs.length : Int) ≤ 12
      · have H := hd (show tableB xs p = xs.all (inR · 0 (p - 1)) by rw [tableB, hp, manyIn, decide_eq_true h1, decide_eq_true h2]; rfl)
        go_enter Try.func114, Try.ntmps114
        go_wp2_with (first | (go_at_call 115; refine (l00In_any _ _ _ _).mono ?_; rintro e w' ⟨rfl, rfl⟩) | (go_at_call 151; refine (l05Times_any _ xs _ _ hs' p1 p2).mono ?_; rintro e w' ⟨rfl, rfl⟩))
        go_ret
        exact ⟨ret_bool H.out.symm, rfl⟩
      · have H := hd (show tableB xs p = false by simp [tableB, manyIn]; intros; omega)
        go_enter Try.func114, Try.ntmps114
        go_wp2_with (go_at_call 115; refine (l00In_any _ _ _ _).mono ?_; rintro e w' ⟨rfl, rfl⟩)
        go_ret
        exact ⟨ret_bool H.out.symm, rfl⟩
    · have H := hd (show tableB xs p = false by simp [tableB, manyIn]; intros; omega)
      go_enter Try.func114, Try.ntmps114
      go_wp2_with (go_at_call 115; refine (l00In_any _ _ _ _).mono ?_; rintro e w' ⟨rfl, rfl⟩)
      go_ret
      exact ⟨ret_bool H.out.symm, rfl⟩

end Go.Proofs.Ytcfkcahibkpjhaa
