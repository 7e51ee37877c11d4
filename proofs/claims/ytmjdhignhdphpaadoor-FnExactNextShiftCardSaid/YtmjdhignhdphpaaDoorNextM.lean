/- Shifts listed: FirstShifts, on both sides. -/
import Derived.Test.YtmjdhignhdphpaaDoorProg
import Derived.Test.YtmjdhignhdphpaaDoorRule
import Derived.Test.YtmjdhignhdphpaaDoorShiftM
import Derived.Test.YtmjdhignhdphpaaDoorListK
import Derived.Test.YtmjdhignhdphpaaDoorListP
import Derived.Carry
namespace Go.Proofs.YtmjdhignhdphpaaDoor
open Go.RowKit Plain
set_option linter.unusedVariables false
set_option linter.unusedSimpArgs false
attribute [local go_sem ↓] Go.wp_at_zero Go.wp_at_succ

theorem below_of_grew {w w1 w' : World} {b : Option Nat} {v : Value} (h : Below w.heap.size w w1) (g : Grew w1 w' b v) (hb : ∀ k, b = some k → w.heap.size ≤ k) (hv : ∀ k, v.ownBlock = some k → w.heap.size ≤ k) : Below w.heap.size w w' :=
  ⟨g.os.trans h.os, g.tape.trans h.tape, g.output.trans h.output, Nat.le_trans h.size g.size, fun k hk => by
    rw [g.block k (Nat.lt_of_lt_of_le hk h.size) (fun e => by have := hb k e.symm; omega) (fun e => by have := hv k e; omega)]
    exact h.block k hk⟩
/-- what both return -/
def okF (r : SR) (c : Int) : Bool := validS r && inR c 0 64
def allF (r : SR) (c : Nat) : List ByteArray := fillS c [] (listS (limS r) r.slots.toNat ShiftPt.start ⟨#[]⟩)
def Mf (r : SR) (c : Int) : List ByteArray × Bool := if okF r c then (allF r c.toNat, true) else ([], false)
theorem Mf_no {r : SR} {c : Int} (h : okF r c = false) : Mf r c = ([], false) := by rw [Mf, h]; rfl
theorem Mf_yes {r : SR} {c : Int} (h : okF r c = true) : Mf r c = (allF r c.toNat, true) := by rw [Mf, h]; rfl
theorem Mf_len (r : SR) (c : Int) : (Mf r c).1.length ≤ 1048576 := by
  cases h : okF r c with
  | false => rw [Mf_no h]; simp
  | true =>
    rw [Mf_yes h]
    simp only [okF, Bool.and_eq_true] at h
    have := inR_iff.1 h.2
    have := fill_len (c := c.toNat) (o := []) (l := listS (limS r) r.slots.toNat ShiftPt.start ⟨#[]⟩)
    show (allF r c.toNat).length ≤ _
    unfold allF
    omega
theorem srat_box (w : World) (r : SR) (t : TypeId) : SRat (w.alloc (.cells #[.int .i64 r.slots, .int .i64 r.least, .int .i64 r.most, .int .i64 r.row, .int .i64 r.pause] t)) w.heap.size 0 r := ⟨by simp [go_sem], by simp [go_sem], by simp [go_sem], by simp [go_sem], by simp [go_sem]⟩
theorem srat_drewN {w : World} {g o : Nat} {R : SR} (h : SRat w g o R) (n : Nat) : SRat (w.drewN n) g o R := h.below (below_drewN (Below.refl _ _) n)

end Go.Proofs.YtmjdhignhdphpaaDoor
