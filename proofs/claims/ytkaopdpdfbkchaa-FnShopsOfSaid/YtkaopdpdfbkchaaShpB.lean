/- Open shops: the bound, and whether starts are a plan: contracts. -/
import Derived.Test.YtkaopdpdfbkchaaShpA
namespace Go.Proofs.Ytkaopdpdfbkchaa
open Go.RowKit Plain
set_option linter.unusedVariables false
set_option linter.unusedSimpArgs false
attribute [local go_sem ↓] Go.wp_at_zero Go.wp_at_succ
/-- two steps that share a job or a machine -/
abbrev nearS (m x y : Nat) : Prop := x / m = y / m ∨ x % m = y % m
/-- they have no time in common -/
abbrev aptS (a t : Nat → Nat) (x y : Nat) : Prop := a x + t x ≤ a y ∨ a y + t y ≤ a x
/-- an operation of a quiet region whose guard does not hold -/
theorem wpQuiet_skip {P : Program} {ops : Array Oper} {C : World → Prop} {Q : Act → Prop} {a : Act} {o : Oper} {rest : List Oper} (h : Region.wanted o (yielded ops a.tmps) = false) (hk : wpQuiet P ops C Q rest (a.put o.dst undef)) : wpQuiet P ops C Q (o :: rest) a := by
  unfold wpQuiet
  rw [h]
  exact hk
/-- a move in a quiet region -/
theorem wpQuiet_move {P : Program} {ops : Array Oper} {C : World → Prop} {Q : Act → Prop} {a : Act} {o : Oper} {rest : List Oper} {x : Operand} (hg : o.guard = none) (ho : o.op = .move x) (hk : wpQuiet P ops C Q rest (a.put o.dst (a.eval x))) : wpQuiet P ops C Q (o :: rest) a := by
  unfold wpQuiet
  rw [if_pos (by unfold Region.wanted; rw [hg])]
  exact ⟨a.eval x, fun w _ => by unfold Oper.quietAt execOp; rw [ho]; exact ⟨rfl, rfl⟩, hk⟩
set_option maxHeartbeats 1000000 in
theorem OpenBound_any (b c m n s : Nat) (t : Nat → Nat) (w : World) (h : ShT w b c m n s t) :
    Calls Try.prog 9 #[.slice (some ⟨b, 0, none⟩) s c, .int .i64 m] w fun r w' => r = .returned (.tuple #[.int .i64 (bndM m s n t m), .bool true]) ∧ Below w.heap.size w w' := by
  have AS := hd (fun (w' : World) (hb : Below w.heap.size w w') => asShop_any b c m n s t w' (h.below hb))
  have SB := hd (fun (w' : World) (hb : Below w.heap.size w w') => shopBound_any b c m n s t w' (h.below hb))
  clear h
  unfold shV at AS SB
  go_enter Try.func9, Try.ntmps9
  go_wp2_with (first
    | (go_at_call 17; refine (AS.out _ (by go_grown)).mono ?_; rintro e w' ⟨rfl, hb⟩; have HB := hd hb; clear hb)
    | (go_at_call 22; refine (SB.out _ (HB.out.alloc HB.out.size _)).mono ?_; rintro e w2 ⟨rfl, hb2⟩))
  go_ret2
  exact ⟨rfl, below_tr hb2 (HB.out.alloc HB.out.size _)⟩
set_option maxHeartbeats 1000000 in
theorem areStarts_any (b c s : Nat) (a : Nat → Nat) (w : World) (h : FA w b 0 c s (natF a)) (s8 : s ≤ 8) (ha : ∀ i, i < s → a i ≤ 1000000) :
    Calls Try.prog 20 #[.slice (some ⟨b, 0, none⟩) s c, .int .i64 s] w fun r w' => r = .returned (.bool true) ∧ w' = w := by
  have AM := hd (areMany_any (.slice (some ⟨b, 0, none⟩) s c) (fL s (natF a)) s s 0 1000000 w (h.slf (by omega)))
  rw [fL_many (fun i hi => by have := ha i hi; unfold natF; omega) (Int.le_refl _) (Int.le_refl _)] at AM
  go_enter Try.func20, Try.ntmps20
  go_wp2_with (go_at_call 37; refine AM.out.mono ?_; rintro e w' ⟨rfl, hw⟩; subst hw)
  go_ret
  exact ⟨rfl, rfl⟩
set_option maxHeartbeats 1000000 in
theorem apart_any (a l b o : Nat) (w : World) (ha : a ≤ 1000000) (hb : b ≤ 1000000) (hl : l ≤ 1000) (ho : o ≤ 1000) (v : Bool) (hv : v = true ↔ (a + l ≤ b ∨ b + o ≤ a)) :
    Calls Try.prog 21 #[.int .i64 a, .int .i64 l, .int .i64 b, .int .i64 o] w fun r w' => r = .returned (.bool v) ∧ w' = w := by
  have w1 : IntKind.i64.wrap ((a : Int) + l) = (a : Int) + l := IntWalk.i64_in _ (by omega)
  have w2 : IntKind.i64.wrap ((b : Int) + o) = (b : Int) + o := IntWalk.i64_in _ (by omega)
  by_cases h1 : (a : Int) + l ≤ b
  · obtain rfl : v = true := hv.2 (by omega)
    clear hv
    go_enter Try.func21, Try.ntmps21
    go_wp2
    go_ret
    exact ⟨rfl, rfl⟩
  · have HV := hd hv
    clear hv
    go_enter Try.func21, Try.ntmps21
    go_wp2
    go_ret
    refine ⟨ret_bool ?_, rfl⟩
    have hv := HV.out
    cases v with
    | true => have := hv.1 rfl; rw [decide_eq_true_eq]; omega
    | false =>
      rw [decide_eq_false_iff_not]
      intro h
      have := hv.2 (by omega)
      cases this
end Go.Proofs.Ytkaopdpdfbkchaa
