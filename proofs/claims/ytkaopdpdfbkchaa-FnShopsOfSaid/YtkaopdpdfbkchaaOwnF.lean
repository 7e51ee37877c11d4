/- A row of the call's own of one element or more: its form. -/
import Derived.Test.YtkaopdpdfbkchaaProg
import Derived.Test.YtkaopdpdfbkchaaBase
namespace Go.Proofs.Ytkaopdpdfbkchaa
open Go.RowKit
set_option linter.unusedVariables false
set_option linter.unusedSimpArgs false
theorem own_form {w : World} {base size n : Nat} {e : TypeId} {v : Value} {xs : List Value} (h : w.ownsRow base e size v n xs) (hn : 1 ≤ n) : ∃ g c, v = .slice (some ⟨g, 0, none⟩) n c ∧ base ≤ g ∧ g < w.heap.size := by
  rcases h.2 with ⟨_, h⟩ | ⟨g, cap, cur, hv, hb, hg, _⟩
  · omega
  · exact ⟨g, cap, hv, hb, (Array.getElem?_eq_some_iff.1 hg).1⟩
def NeSl (cv : Value) (g : Nat) : Prop := ∀ A n cap, cv = .slice A n cap → 0 < n → A.map (·.block) ≠ some g
theorem sl_grownO {w w' : World} {cv : Value} {n size g : Nat} {cs : List Value} (h : Sl w size cv n cs) (hne : NeSl cv g) (hg : w.grownBy w' (some g)) : Sl w' size cv n cs := by
  obtain ⟨A, cap, rfl, hcap, hr⟩ := h
  rcases Nat.eq_zero_or_pos n with h0 | h0
  · subst h0
    exact ⟨A, cap, rfl, hcap, hr.1, hr.2.1, fun h => absurd h (Nat.lt_irrefl 0)⟩
  · exact ⟨A, cap, rfl, hcap, hr.grown hg (.inl (hne _ _ _ rfl h0))⟩
end Go.Proofs.Ytkaopdpdfbkchaa
