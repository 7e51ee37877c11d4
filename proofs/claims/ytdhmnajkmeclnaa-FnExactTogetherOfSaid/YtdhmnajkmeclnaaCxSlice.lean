/- Slices of complex64: reading, append. -/
import Derived.Test.YtdhmnajkmeclnaaProg
import Derived.Test.YtdhmnajkmeclnaaBase
import Derived.Test.YtdhmnajkmeclnaaWords
import Derived.Test.YtdhmnajkmeclnaaApp
namespace Go.Proofs.Ytdhmnajkmeclnaa
open Go.RowKit Plain
set_option linter.unusedVariables false
set_option linter.unusedSimpArgs false
def vc (x : Nat × Nat) : Value := .complex .f32 x.1 x.2
theorem Rd.cpx {w : World} {A : Option Addr} {n : Nat} {xs : List (Nat × Nat)} (h : Rd w 1 A n (xs.map vc)) {k : Nat} (hk : k < n) : ∃ b off, A = some ⟨b, off, none⟩ ∧ w.cell? ⟨b, off + k, none⟩ = some (.complex .f32 (xs.getD k (0, 0)).1 (xs.getD k (0, 0)).2) := by
  obtain ⟨h1, _, h2⟩ := h
  obtain ⟨b, off, hA, hc⟩ := h2 (by omega)
  refine ⟨b, off, hA, hc k _ ?_⟩
  have hl : k < xs.length := by simp at h1; omega
  simp [hl, vc, List.getD_eq_getElem?_getD]
theorem run_store_complex {P : Program} {w : World} {a : Addr} {m : Mode} (k : FloatKind) (x y : Nat) : (store a (.complex k x y) m).run P w = stored P w a (.complex k x y) m := run_store P w a _ m rfl
theorem info_complex : (Try.prog.info? 37).map (fun i => (i.zero, i.size, i.bytes)) = some (some (.complex .f32 0 0), 1, 8) := by kernel_rfl
theorem wpList_app_complex {ops : Array Oper} {rest : List Oper} {o : Oper} {a : Act} {Q : Exit → Act → World → Prop} (w : World) (T : TypeId) (val : Value) (hgd : o.guard = none) (s x : Operand)
    (ho : o.op = .call { callee := .builtin .append, args := #[s, x], argTypes := #[23, 23] }) (base n : Nat) (v : Value) (xs : List Value) (hs : a.eval s = v) (hown : w.ownsRow base 37 1 v n xs)
    (h1 : val.oneCell' = true) (g : Nat) (hx : a.eval x = .slice (some ⟨g, 0, none⟩) 1 1) (hg : w.heap.size = g) (hn : n ≤ 1048576) (hbase : base ≤ w.heap.size)
    (h : ∀ v' w', w'.ownsRow base 37 1 v' (n + 1) (xs ++ [val]) → w.grownBy w' v.ownBlock → Apart w v v' → wpList Try.prog ops Q rest (a.put o.dst v') w') :
    wpList Try.prog ops Q (o :: rest) a (w.alloc (.cells #[val] T)) := by
  subst hg
  obtain ⟨i0, hi, hz0, hz1, hz2⟩ := info_parts info_complex
  refine wpList_append_own_at _ hgd s x 23 ho base 37 i0 (.complex .f32 0 0) 1 8 Try.underlying23 hi hz0 hz1 hz2 rfl (by decide) v n xs hs (hown.alloc _) ⟨w.heap.size, 0, none⟩ 1 1 [val] hx rfl (cell_one_new _ _ _) (one_cellB h1) (by unfold maxLen; omega) (by omega) (Nat.le_trans hbase (by simp)) ?_
  intro v' w' h2 h3 _ h5
  exact h v' w' h2 ((below_all ((Below.refl _ w).alloc (Nat.le_refl _) _) _).trans h3) (apart_of (by simp) h5)
end Go.Proofs.Ytdhmnajkmeclnaa
