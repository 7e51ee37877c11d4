/- A store of one cell into a block whose cells are known: a box of the call's own. -/
import Derived.Test.YtkaopdpdfbkchaaBase
import Derived.Test.YtkaopdpdfbkchaaStoreOwn
import Derived.Laws.Tables
namespace Go.Proofs.Ytkaopdpdfbkchaa
open Go.RowKit
set_option linter.unusedVariables false

theorem run_storeVar_box {P : Program} (w : World) (g : Nat) (cs : Array Value) (t : TypeId) (hg : w.heap[g]? = some (.cells cs t (0, 0))) (j : Nat) (val : Value) (ty : TypeId)
    (h1 : val.oneCell' = true) (hj : j < cs.size) (hi : (P.info? ty).map (·.size) = some 1) : (storeVar ty ⟨g, j, none⟩ val).run P w = .ok () (w.setCell ⟨g, j, none⟩ val) := by
  have hc := cell_of_row w g j cs t (0, 0) hg
  have hf := frozen_of_row w g j cs t hg
  rw [Array.getElem?_eq_getElem hj] at hc
  have hcs : val.cells = #[val] := by cases val <;> first | rfl | cases h1
  cases hq : P.info? ty with
  | none => simp [hq] at hi
  | some i =>
    have hs : i.size = 1 := by simpa [hq] using hi
    have hr := run_store P w ⟨g, j, none⟩ val .plain h1
    rw [hc] at hr
    simp only [hf] at hr
    simp [storeVar, sizeOf, typeInfo, hq, hcs, hs, storeCells, Addr.add, hr]
theorem grown_setCell (w : World) (g j : Nat) (val : Value) : w.grownBy (w.setCell ⟨g, j, none⟩ val) (some g) :=
  ⟨rfl, rfl, rfl, by simp, fun k _ hk => heap_setCell_other w ⟨g, j, none⟩ k val (fun e => hk (by simp [e]))⟩
theorem wpList_store_box {P : Program} {ops : Array Oper} {rest : List Oper} {ty tt : TypeId} {x y : Operand} {pp : String} {af : Array Edge} {a : Act} {Q : Exit → Act → World → Prop} (w : World) (g : Nat) (cs : Array Value) (t : TypeId) (hg : w.heap[g]? = some (.cells cs t (0, 0)))
    (hi : (P.info? ty).map (·.size) = some 1) (j : Nat) (val : Value) (hx : a.eval x = .pointer (some ⟨g, j, none⟩)) (hy : a.eval y = val) (h1 : val.oneCell' = true) (hj : j < cs.size)
    (h : ∀ w', w'.heap[g]? = some (.cells (cs.setIfInBounds j val) t (0, 0)) → w.grownBy w' (some g) → wpList P ops Q rest a w') :
    wpList P ops Q ({ dst := none, op := .store ty x y, type := tt, pos := pp, after := af, guard := none } :: rest) a w := by
  refine wpList_plain rfl fun K hK => ?_
  unfold Oper.wp execOp
  simp only [hx, hy, Instr.storeAt, Instr.sureAddr, Sem.run_bind, Sem.run_pure, Result.andThen_ok, run_storeVar_box w g cs t hg j val ty h1 hj hi]
  exact hK _ _ (h _ (heap_setCell_same w g j cs t val hg) (grown_setCell w g j val))
theorem grown_setRow (w : World) (g : Nat) (cs : Array Value) : w.grownBy (w.setRow g cs) (some g) :=
  ⟨rfl, rfl, rfl, by simp [World.setRow], fun k _ hk => setRow_other w g k cs (fun e => hk (by simp [e]))⟩
theorem wpList_store_rec {P : Program} {ops : Array Oper} {rest : List Oper} {ty tt : TypeId} {x y : Operand} {pp : String} {af : Array Edge} {a : Act} {Q : Exit → Act → World → Prop} (w : World) (g : Nat) (cs new : Array Value) (t : TypeId) (hg : w.heap[g]? = some (.cells cs t (0, 0)))
    (hi : (P.info? ty).map (·.size) = some new.size) (hold : cs.size = new.size) (h1 : new.all (·.oneCell') = true) (hx : a.eval x = .pointer (some ⟨g, 0, none⟩)) (hy : a.eval y = .agg new)
    (h : ∀ w', w'.heap[g]? = some (.cells new t (0, 0)) → w.grownBy w' (some g) → wpList P ops Q rest a w') :
    wpList P ops Q ({ dst := none, op := .store ty x y, type := tt, pos := pp, after := af, guard := none } :: rest) a w :=
  wpList_store_row rfl ty x y rfl g new hx hy t cs hg hi hold h1 (h _ (setRow_heap w g cs new t _ hg) (grown_setRow w g new))
end Go.Proofs.Ytkaopdpdfbkchaa
