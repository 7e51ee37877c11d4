/- Jobs and orders as the walk holds them; valid jobs are told to be valid. -/
import Derived.Test.YtkdjeneogclocaaProg
import Derived.Test.YtkdjeneogclocaaNum
import Derived.Test.YtkdjeneogclocaaRulP
import Derived.Test.YtkdjeneogclocaaOwnF
import Derived.Sort.AtCall
namespace Go.Proofs.Ytkdjeneogclocaa
open Go.RowKit Plain
set_option linter.unusedVariables false
set_option linter.unusedSimpArgs false
attribute [local go_sem ↓] Go.wp_at_zero Go.wp_at_succ
/-- a slice of valid jobs -/
structure JobsAt (w : World) (V : Value) (l : List Q4) (n : Nat) : Prop where
  sl : Sl w 4 V n (q4s l)
  len : l.length = n
  ok : ∀ q ∈ l, jobOk q
  n1 : 1 ≤ n
  n24 : n ≤ 24
theorem JobsAt.below {w w' : World} {V : Value} {l : List Q4} {n : Nat} (h : JobsAt w V l n) (hb : Below w.heap.size w w') : JobsAt w' V l n := ⟨h.sl.below hb, h.len, h.ok, h.n1, h.n24⟩
theorem JobsAt.at {w : World} {V : Value} {l : List Q4} {n : Nat} (h : JobsAt w V l n) {k : Nat} {q : Q4} (hq : l[k]? = some q) : jobOk q := h.ok q (List.mem_of_getElem? hq)
/-- a slice of an order -/
structure OrdAt (w : World) (V : Value) (d : List Int) (n : Nat) : Prop where
  sl : Sl w 1 V n (d.map vi)
  len : d.length = n
  nn : ∀ k, k < n → 0 ≤ d.getD k 0
  perm : Perm (ordF d) n
theorem OrdAt.below {w w' : World} {V : Value} {d : List Int} {n : Nat} (h : OrdAt w V d n) (hb : Below w.heap.size w w') : OrdAt w' V d n := ⟨h.sl.below hb, h.len, h.nn, h.perm⟩
theorem OrdAt.cast {w : World} {V : Value} {d : List Int} {n : Nat} (h : OrdAt w V d n) {k : Nat} (hk : k < n) : d.getD k 0 = (ordF d k : Int) := by
  have := h.nn k hk
  rw [ordF]; omega
set_option maxHeartbeats 1000000 in
theorem AreJobs_any (V : Value) (l : List Q4) (n : Nat) (w : World) (h : JobsAt w V l n) :
    Calls Try.prog 26 #[V] w fun r w' => r = .returned (.bool true) ∧ Below w.heap.size w w' := by
  have HJ := hd h
  obtain ⟨A, cap, rfl, hcap, hr⟩ := h.sl
  have n1 := h.n1
  have n24 := h.n24
  clear h
  go_enter Try.func26, Try.ntmps26
  go_wp2
  go_loopw [7] (fun i wr => ∃ k : Nat, k ≤ n ∧ i = .int .i64 k ∧ Below w.heap.size w wr) (fun i _ => n - (intOf i).toNat)
  case atStart => exact ⟨0, by omega, rfl, Below.refl _ _⟩
  case round =>
    obtain ⟨k, hk, rfl, hb⟩ := hrel
    by_cases hlt : k < n
    · obtain ⟨b, off, qa, qb, qc, qd, rfl, hq, c0, c1, c2, c3⟩ := (hr.below hb).q4 hlt
      have Hb := hd hb
      obtain ⟨⟨a0, a1⟩, ⟨b0, b1⟩, ⟨d0, d1⟩, e0, e1⟩ := HJ.out.at hq.out
      simp only at a0 a1 b0 b1 d0 d1 e0 e1
      have g1 : inR qa 1 10000 = true := inR_iff.2 ⟨a0, a1⟩
      have g2 : [qb, qc, qd].all (inR · 0 10000) = true := by simp [inR, b0, b1, d0, d1, e0, e1]
      have G2 := hd g2
      have HLIT := hd (show Sl ((wr.alloc (.cells #[.int .i64 qa, .int .i64 qb, .int .i64 qc, .int .i64 qd] 37)).alloc (.cells #[.int .i64 qb, .int .i64 qc, .int .i64 qd] 2)) 1 (.slice (some ⟨wr.heap.size + 1, 0, none⟩) 3 3) [qb, qc, qd].length ([qb, qc, qd].map vi) by
        have h := own_sl (World.ownsRow_lit (base := 0) (e := 2) (size := 1) (wr.alloc (.cells #[.int .i64 qa, .int .i64 qb, .int .i64 qc, .int .i64 qd] 37)) #[.int .i64 qb, .int .i64 qc, .int .i64 qd] 3 (Nat.zero_le _) (by unfold maxLen; omega) rfl) (by unfold maxLen; omega)
        rw [show (wr.alloc (.cells #[.int .i64 qa, .int .i64 qb, .int .i64 qc, .int .i64 qd] 37)).heap.size = wr.heap.size + 1 by simp] at h
        exact h)
      clear hr hb a0 a1 b0 b1 d0 d1 e0 e1 g2
      go_wp2_with (first
        | (go_at_call 17; refine (within_t _ _ _ _ g1).mono ?_; rintro e w' ⟨rfl, hw⟩; subst hw)
        | (go_at_call 24; refine (areWithin_any _ [qb, qc, qd] _ _ _ HLIT.out).mono ?_; rw [G2.out]; rintro e w' ⟨rfl, hw⟩; subst hw))
      go_roundw
      case rel => exact ⟨k + 1, by omega, by go_num, by first | exact (Hb.out.alloc Hb.out.size _).alloc (by have := Hb.out.size; simp; omega) _⟩
      case measure => simp [intOf]; omega
    · have e1 : ((n : Int) ≥ 1) := by omega
      go_wp2
      all_goals (go_ret; exact ⟨ret_bool (by simp; try omega), hb⟩)
end Go.Proofs.Ytkdjeneogclocaa
