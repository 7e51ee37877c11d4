/- A store of one cell into a row of the call's own: what it leaves, with the new world behind a name. -/
import Derived.Test.YtkaopdpdfbkchaaProg
import Derived.Test.YtkaopdpdfbkchaaBase
namespace Go.Proofs.Ytkaopdpdfbkchaa
open Go.RowKit
set_option linter.unusedVariables false

theorem run_storeVar_own {P : Program} (w : World) (base e size n cap g : Nat) (xs : List Value) (hown : w.ownsRow base e size (.slice (some ⟨g, 0, none⟩) n cap) n xs) (j : Nat) (val : Value) (ty : TypeId)
    (h1 : val.oneCell' = true) (hj : j < n * size) (hi : (P.info? ty).map (·.size) = some 1) : (storeVar ty ⟨g, j, none⟩ val).run P w = .ok () (w.setCell ⟨g, j, none⟩ val) := by
  have hc := hown.cellAt j hj
  have hf := hown.frozenAt j
  rw [List.getElem?_eq_getElem (show j < xs.length by have := hown.1; omega)] at hc
  have hcs : val.cells = #[val] := by cases val <;> first | rfl | cases h1
  cases hq : P.info? ty with
  | none => simp [hq] at hi
  | some i =>
    have hs : i.size = 1 := by simpa [hq] using hi
    have hr := run_store P w ⟨g, j, none⟩ val .plain h1
    rw [hc] at hr
    simp only [hf] at hr
    simp [storeVar, sizeOf, typeInfo, hq, hcs, hs, storeCells, Addr.add, hr]

theorem wpList_store_own {P : Program} {ops : Array Oper} {rest : List Oper} {ty tt : TypeId} {x y : Operand} {pp : String} {af : Array Edge} {a : Act} {Q : Exit → Act → World → Prop} (w : World) (base e size n cap g : Nat) (xs : List Value)
    (hown : w.ownsRow base e size (.slice (some ⟨g, 0, none⟩) n cap) n xs) (hi : (P.info? ty).map (·.size) = some 1) (j : Nat) (val : Value) (hx : a.eval x = .pointer (some ⟨g, j, none⟩)) (hy : a.eval y = val) (h1 : val.oneCell' = true) (hj : j < n * size)
    (h : ∀ w', w'.ownsRow base e size (.slice (some ⟨g, 0, none⟩) n cap) n (xs.set j val) → w.grownBy w' (some g) → wpList P ops Q rest a w') :
    wpList P ops Q ({ dst := none, op := .store ty x y, type := tt, pos := pp, after := af, guard := none } :: rest) a w := by
  refine wpList_plain rfl fun K hK => ?_
  unfold Oper.wp execOp
  simp only [hx, hy, Instr.storeAt, Instr.sureAddr, Sem.run_bind, Sem.run_pure, Result.andThen_ok, run_storeVar_own w base e size n cap g xs hown j val ty h1 hj hi]
  exact hK _ _ (h _ (hown.stored j val).1 (hown.stored j val).2)
theorem size_int : (Try.prog.info? 2).map (·.size) = some 1 := by kernel_rfl
theorem size_bool : (Try.prog.info? 4).map (·.size) = some 1 := by kernel_rfl
end Go.Proofs.Ytkaopdpdfbkchaa
