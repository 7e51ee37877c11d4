/- Chapter 5: periods and tables. -/
import Derived.Test.YtdhmnajkmeclnaaNum
import Derived.Test.YtdhmnajkmeclnaaSlice
import Derived.Test.YtdhmnajkmeclnaaWords
namespace Go.Proofs.Ytdhmnajkmeclnaa
open Go.RowKit Plain
set_option linter.unusedVariables false
set_option linter.unusedSimpArgs false
attribute [local go_sem ↓] Go.wp_at_zero Go.wp_at_succ

/-- times of a table -/
def tableB (xs : List Int) (p : Int) : Bool := inR p 1 60 && manyIn xs 1 12 0 (p - 1)
theorem table_at {xs : List Int} {p : Int} (h : tableB xs p = true) (i : Nat) (hi : i < xs.length) : 0 ≤ xs.getD i 0 ∧ xs.getD i 0 ≤ 60 := by
  simp only [tableB, manyIn, Bool.and_eq_true, inR_iff, List.all_eq_true] at h
  have := h.2.2.2 xs[i] (List.getElem_mem _)
  rw [List.getD_eq_getElem?_getD, List.getElem?_eq_getElem hi]
  simp
  omega
theorem tmod_floor (a b : Int) (hb : 0 < b) : (a.tmod b + b) % b = a % b := by
  rw [Int.add_emod_right, Int.tmod_eq_emod]
  split
  · simp
  · have : (b.natAbs : Int) = b := by omega
    rw [this, show a % b - b = a % b + b * (-1) by omega, Int.add_mul_emod_self_left, Int.emod_emod]

set_option maxHeartbeats 400000 in
theorem isPeriod_any (n : Int) (w : World) :
    Calls Try.prog 29 #[.int .i64 n] w fun r w' => r = .returned (.bool (inR n 1 60)) ∧ w = w' := by
  go_enter Try.func29, Try.ntmps29
  go_wp2_with (go_at_call 41; refine (within_any _ _ _ _).mono ?_; rintro e w' ⟨rfl, rfl⟩)
  go_ret
  exact ⟨rfl, rfl⟩

set_option maxHeartbeats 400000 in
theorem areTableTimes_any (v : Value) (xs : List Int) (p : Int) (w : World) (hs : Sl w 1 v xs.length (xs.map vi)) :
    Calls Try.prog 18 #[v, .int .i64 p] w fun r w' => r = .returned (.bool (tableB xs p)) ∧ w = w' := by
  cases hp : inR p 1 60 with
  | false =>
    have H := hd (show tableB xs p = false by rw [tableB, hp]; rfl)
    go_enter Try.func18, Try.ntmps18
    go_wp2_with (go_at_call 29; refine (isPeriod_any _ _).mono ?_; rintro e w' ⟨rfl, rfl⟩)
    go_ret
    exact ⟨ret_bool H.out.symm, rfl⟩
  | true =>
    have H := hd (show tableB xs p = manyIn xs 1 12 0 (p - 1) by rw [tableB, hp]; rfl)
    have hp' := inR_iff.1 hp
    obtain ⟨p1, p2⟩ := hp'
    go_enter Try.func18, Try.ntmps18
    go_wp2_with (first | (go_at_call 29; refine (isPeriod_any _ _).mono ?_; rintro e w' ⟨rfl, rfl⟩) | (go_at_call 30; refine (areMany_any _ xs _ _ _ _ _ hs).mono ?_; rintro e w' ⟨rfl, rfl⟩))
    go_ret
    exact ⟨ret_bool H.out.symm, rfl⟩

set_option maxHeartbeats 400000 in
theorem l05Times_any (v : Value) (xs : List Int) (p : Int) (w : World) (hs : Sl w 1 v xs.length (xs.map vi)) (hp1 : 1 ≤ p) (hp2 : p ≤ 60) :
    Calls Try.prog 25 #[v, .int .i64 p] w fun r w' => r = .returned (.bool (xs.all (inR · 0 (p - 1)))) ∧ w = w' := by
  obtain ⟨A, cap, rfl, hcap, hr⟩ := hs
  have hm := hr.2.1
  unfold maxLen at hm
  generalize hn : xs.length = n at *
  have Hn := hd hn
  clear hn
  go_enter Try.func25, Try.ntmps25
  go_wp2
  go_loop [8] (fun i => ∃ k : Nat, k ≤ n ∧ i = .int .i64 k ∧ Hid ((xs.take k).all (inR · 0 (p - 1)) = true)) (fun i => n - (intOf i).toNat)
  case atStart => exact ⟨0, by omega, rfl, by simp [Hid]⟩
  case round =>
    obtain ⟨k, hk, rfl, ha⟩ := hrel
    by_cases hlt : k < n
    · obtain ⟨b, off, rfl, hc⟩ := hr.int hlt
      go_wp2_with (go_at_call 24; refine (l00In_any _ _ _ _).mono ?_; rintro e w' ⟨rfl, rfl⟩)
      · have h : (!inR (xs[k]?.getD 0) 0 (p - 1)) = true := by assumption
        have hl : k < xs.length := by have := Hn.out; omega
        rw [getD_of hl] at h
        go_ret
        exact ⟨ret_bool (all_false (p := (inR · 0 (p - 1))) hl (by simpa using h)).symm, rfl⟩
      · have h : (!inR (xs[k]?.getD 0) 0 (p - 1)) = false := by assumption
        have hl : k < xs.length := by have := Hn.out; omega
        rw [getD_of hl] at h
        go_round
        case rel => exact ⟨k + 1, by omega, by go_num, all_take_succ (p := (inR · 0 (p - 1))) ha.out hl (by simpa using h)⟩
        case measure => simp [intOf]; omega
    · go_wp2
      go_ret
      exact ⟨ret_bool (all_whole ha.out (by have := Hn.out; omega)).symm, rfl⟩

set_option maxHeartbeats 400000 in
theorem l05Table_any (v : Value) (xs : List Int) (p : Int) (w : World) (hs : Sl w 1 v xs.length (xs.map vi)) :
    Calls Try.prog 16 #[v, .int .i64 p] w fun r w' => r = .returned (.bool (tableB xs p)) ∧ w = w' := by
  have hs' := hs
  obtain ⟨A, cap, rfl, hcap, hr⟩ := hs
  cases hp : inR p 1 60 with
  | false =>
    have H := hd (show tableB xs p = false by rw [tableB, hp]; rfl)
    go_enter Try.func16, Try.ntmps16
    go_wp2_with (go_at_call 24; refine (l00In_any _ _ _ _).mono ?_; rintro e w' ⟨rfl, rfl⟩)
    go_ret
    exact ⟨ret_bool H.out.symm, rfl⟩
  | true =>
    have hp' := inR_iff.1 hp
    obtain ⟨p1, p2⟩ := hp'
    by_cases h1 : (1 : Int) ≤ xs.length
    · by_cases h2 : (xs.length : Int) ≤ 12
      · have H := hd (show tableB xs p = xs.all (inR · 0 (p - 1)) by rw [tableB, hp, manyIn, decide_eq_true h1, decide_eq_true h2]; rfl)
        go_enter Try.func16, Try.ntmps16
        go_wp2_with (first | (go_at_call 24; refine (l00In_any _ _ _ _).mono ?_; rintro e w' ⟨rfl, rfl⟩) | (go_at_call 25; refine (l05Times_any _ xs _ _ hs' p1 p2).mono ?_; rintro e w' ⟨rfl, rfl⟩))
        go_ret
        exact ⟨ret_bool H.out.symm, rfl⟩
      · have H := hd (show tableB xs p = false by simp [tableB, manyIn]; intros; omega)
        go_enter Try.func16, Try.ntmps16
        go_wp2_with (go_at_call 24; refine (l00In_any _ _ _ _).mono ?_; rintro e w' ⟨rfl, rfl⟩)
        go_ret
        exact ⟨ret_bool H.out.symm, rfl⟩
    · have H := hd (show tableB xs p = false by simp [tableB, manyIn]; intros; omega)
      go_enter Try.func16, Try.ntmps16
      go_wp2_with (go_at_call 24; refine (l00In_any _ _ _ _).mono ?_; rintro e w' ⟨rfl, rfl⟩)
      go_ret
      exact ⟨ret_bool H.out.symm, rfl⟩

end Go.Proofs.Ytdhmnajkmeclnaa
