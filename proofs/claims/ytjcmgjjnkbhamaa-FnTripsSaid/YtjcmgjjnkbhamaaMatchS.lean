/- Rows matched with columns, the reference's side. -/
import Derived.Test.YtjcmgjjnkbhamaaProg
import Derived.Test.YtjcmgjjnkbhamaaMatchT
import Derived.Test.YtjcmgjjnkbhamaaStoreOwn
import Derived.Test.YtjcmgjjnkbhamaaApp
import Derived.Test.YtjcmgjjnkbhamaaBSlice
import Derived.Test.YtjcmgjjnkbhamaaSlice
import Derived.Sort.AtCall
namespace Go.Proofs.Ytjcmgjjnkbhamaa
open Go.RowKit Plain
set_option linter.unusedVariables false
set_option linter.unusedSimpArgs false
attribute [local go_sem ↓] Go.wp_at_zero Go.wp_at_succ

/-- the two rows of a search -/
def PairR (w : World) (B g1 c1 g2 p : Nat) (s : MaS) : Prop := w.ownsRow B 2 1 (.slice (some ⟨g1, 0, none⟩) p c1) p (s.po.map vi) ∧ w.ownsRow B 4 1 (.slice (some ⟨g2, 0, none⟩) p p) p (s.sn.map vb) ∧ g1 ≠ g2
theorem dj_ne {g1 g2 n1 c1 n2 c2 : Nat} (h : g1 ≠ g2) : Dj (.slice (some ⟨g1, 0, none⟩) n1 c1) (.slice (some ⟨g2, 0, none⟩) n2 c2) := by
  intro k hk hk2
  have e1 := Option.some.inj hk
  have e2 := Option.some.inj hk2
  simp only at e1 e2
  omega
theorem own_bool {w : World} {base g c p k : Nat} {e : TypeId} {l : List Bool} (h : w.ownsRow base e 1 (.slice (some ⟨g, 0, none⟩) p c) p (l.map vb)) (hk : k < p) : w.cell? ⟨g, k, none⟩ = some (.bool (l.getD k true)) := by
  have hl := h.1
  simp at hl
  rw [h.cellAt k (by omega), List.getElem?_map, List.getElem?_eq_getElem (by omega), List.getD_eq_getElem?_getD, List.getElem?_eq_getElem (by omega)]; rfl
theorem own_int {w : World} {base g c p k : Nat} {e : TypeId} {l : List Int} (h : w.ownsRow base e 1 (.slice (some ⟨g, 0, none⟩) p c) p (l.map vi)) (hk : k < p) : w.cell? ⟨g, k, none⟩ = some (.int .i64 (l.getD k 0)) := by
  have hl := h.1
  simp at hl
  rw [h.cellAt k (by omega), List.getElem?_map, List.getElem?_eq_getElem (by omega), List.getD_eq_getElem?_getD, List.getElem?_eq_getElem (by omega)]; rfl
theorem PairR.mark {w w' : World} {B g1 c1 g2 p k : Nat} {s : MaS} (h : PairR w B g1 c1 g2 p s) (ho : w'.ownsRow B 4 1 (.slice (some ⟨g2, 0, none⟩) p p) p ((s.sn.map vb).set k (vb true))) (hg : w.grownBy w' (some g2)) : PairR w' B g1 c1 g2 p (markM s k) := by
  refine ⟨own_kept (u := .slice (some ⟨g2, 0, none⟩) p p) h.1 hg (dj_ne h.2.2), ?_, h.2.2⟩
  show w'.ownsRow _ _ _ _ _ ((s.sn.set k true).map vb)
  rw [List.map_set]; exact ho
theorem PairR.give {w w' : World} {B g1 c1 g2 p k i : Nat} {s : MaS} (h : PairR w B g1 c1 g2 p s) (ho : w'.ownsRow B 2 1 (.slice (some ⟨g1, 0, none⟩) p c1) p ((s.po.map vi).set k (vi i))) (hg : w.grownBy w' (some g1)) : PairR w' B g1 c1 g2 p (giveM s k i) := by
  refine ⟨?_, own_kept (u := .slice (some ⟨g1, 0, none⟩) p c1) h.2.1 hg (dj_ne h.2.2.symm), h.2.2⟩
  show w'.ownsRow _ _ _ _ _ ((s.po.set k (i : Int)).map vi)
  rw [List.map_set]; exact ho
theorem belowB {B g : Nat} {w0 w w' : World} (h : Below B w0 w) (hg : w.grownBy w' (some g)) (hB : B ≤ g) (hs : B ≤ w0.heap.size) : Below B w0 w' := h.grown hg (Nat.le_trans hs h.size) (fun k hk => by cases hk; exact hB)
theorem cell_bt {bt q B : Nat} {w w' : World} {v : Value} (hc : w.cell? ⟨bt, q, none⟩ = some v) (hb : bt < B) (h : Below B w w') : w'.cell? ⟨bt, q, none⟩ = some v := by
  have e := h.block bt hb
  rw [← hc]
  simp only [World.cell?]
  rw [e]
theorem at_lt {i k rows p : Nat} (hi : i < rows) (hk : k < p) : i * p + k < rows * p := by
  have : (i + 1) * p ≤ rows * p := Nat.mul_le_mul_right p hi
  rw [Nat.succ_mul] at this
  omega

end Go.Proofs.Ytjcmgjjnkbhamaa
