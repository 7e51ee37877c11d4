/- Tasks as the walk holds them; valid tasks are told to be valid. -/
import Derived.Test.YtkdjeneogclocaaProg
import Derived.Test.YtkdjeneogclocaaNum
import Derived.Test.YtkdjeneogclocaaProT
import Derived.Test.YtkdjeneogclocaaOwnF
import Derived.Test.YtkdjeneogclocaaApp
import Derived.Test.YtkdjeneogclocaaStoreOwn
import Derived.Sort.AtCall
import Derived.Deep.CutRange
namespace Go.Proofs.Ytkdjeneogclocaa
open Go.RowKit Plain
set_option linter.unusedVariables false
set_option linter.unusedSimpArgs false
attribute [local go_sem ↓] Go.wp_at_zero Go.wp_at_succ
/-- the cells of one task -/
def TCell (w : World) (b p : Nat) (t : TK) : Prop := ∃ Ab cb Al cl, w.cell? ⟨b, p, none⟩ = some (.int .i64 t.a) ∧ w.cell? ⟨b, p + 1, none⟩ = some (.int .i64 t.b) ∧ w.cell? ⟨b, p + 2, none⟩ = some (.slice Ab t.bf.length cb) ∧ w.cell? ⟨b, p + 3, none⟩ = some (.slice Al t.bf.length cl) ∧
  Rd w 1 Ab t.bf.length (t.bf.map vi) ∧ Rd w 1 Al t.bf.length (t.lg.map vi) ∧ t.bf.length ≤ cb ∧ t.bf.length ≤ cl
/-- a slice of valid tasks -/
structure TA (w : World) (b o c : Nat) (ts : List TK) (n : Nat) : Prop where
  ok : TasksOk ts n
  n1 : 1 ≤ n
  n9 : n ≤ 9
  nc : n ≤ c
  cl : ∀ i, i < n → TCell w b (o + i * 4) (tkAt ts i)
theorem TCell.below {w w' : World} {b p : Nat} {t : TK} (h : TCell w b p t) (hb : Below w.heap.size w w') : TCell w' b p t := by
  obtain ⟨Ab, cb, Al, cl, h0, h1, h2, h3, h4, h5, h6, h7⟩ := h
  exact ⟨Ab, cb, Al, cl, below_at hb h0, below_at hb h1, below_at hb h2, below_at hb h3, h4.below hb, h5.below hb, h6, h7⟩
theorem TA.below {w w' : World} {b o c : Nat} {ts : List TK} {n : Nat} (h : TA w b o c ts n) (hb : Below w.heap.size w w') : TA w' b o c ts n := ⟨h.ok, h.n1, h.n9, h.nc, fun i hi => (h.cl i hi).below hb⟩
theorem TA.blk {w : World} {b o c : Nat} {ts : List TK} {n : Nat} (h : TA w b o c ts n) : b < w.heap.size := by
  obtain ⟨_, _, _, _, h0, _⟩ := h.cl 0 h.n1
  exact block_lt_of_cell h0
/-- a slice of starts -/
structure SA (w : World) (V : Value) (s : List Int) (n : Nat) (lo hi : Int) : Prop where
  sl : Sl w 1 V n (s.map vi)
  bd : ∀ k, k < n → lo ≤ s.getD k 0 ∧ s.getD k 0 ≤ hi
theorem SA.below {w w' : World} {V : Value} {s : List Int} {n : Nat} {lo hi : Int} (h : SA w V s n lo hi) (hb : Below w.heap.size w w') : SA w' V s n lo hi := ⟨h.sl.below hb, h.bd⟩
theorem max_ifT (a b : Int) : max a b = if a < b then b else a := by split <;> omega
theorem min_ifT (a b : Int) : min a b = if b < a then b else a := by split <;> omega
end Go.Proofs.Ytkdjeneogclocaa
