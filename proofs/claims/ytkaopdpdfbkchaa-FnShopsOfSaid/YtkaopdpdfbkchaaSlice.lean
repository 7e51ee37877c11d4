/- The laws' helpers on slices of int64: a copy, equality, marks. -/
import Derived.Test.YtkaopdpdfbkchaaProg
import Derived.Test.YtkaopdpdfbkchaaBase
import Derived.Test.YtkaopdpdfbkchaaPlain
namespace Go.Proofs.Ytkaopdpdfbkchaa
open Go.RowKit Plain
set_option linter.unusedVariables false
set_option linter.unusedSimpArgs false
attribute [local go_sem ↓] Go.wp_at_zero Go.wp_at_succ

/-- The call hands back a new slice that reads xs; nothing that was there has turned. -/
def OutL (E size : Nat) (n : Nat) (xs : List Value) (mk : Value → Value) (w : World) (r : Ending) (w' : World) : Prop := ∃ u, r = .returned (mk u) ∧ w'.ownsRow w.heap.size E size u n xs ∧ Below w.heap.size w w'
def NewRow (E size : Nat) (n : Nat) (xs : List Value) (w : World) (r : Ending) (w' : World) : Prop := ∃ u, r = .returned u ∧ w'.ownsRow w.heap.size E size u n xs ∧ Below w.heap.size w w'
/-- The call has written its own slice u anew, and nothing else. -/
def MarkedRow (E size : Nat) (u : Value) (n : Nat) (xs : List Value) (base : Nat) (k : Int) (w : World) (r : Ending) (w' : World) : Prop := r = .returned (.int .i64 k) ∧ w'.ownsRow base E size u n xs ∧ w.grownBy w' u.ownBlock
/-- The call has read only: draws alone. -/
def Draws (v : Value) (w : World) (r : Ending) (w' : World) : Prop := r = .returned v ∧ ∃ m, w' = w.drewN m

theorem one_cell {u : Value} (h : u.oneCell' = true) : ∀ x ∈ [u], x.oneCell' = true := by
  intro x hx
  simp at hx
  subst hx
  exact h
theorem app1 {n : Nat} (h : n ≤ 1048576) : n + 1 ≤ maxLen := by unfold maxLen; omega
theorem infoI64 : (Try.prog.info? 2).map (fun i => (i.zero, i.size, i.bytes)) = some (some (.int .i64 0), 1, 8) := by kernel_rfl

end Go.Proofs.Ytkaopdpdfbkchaa
