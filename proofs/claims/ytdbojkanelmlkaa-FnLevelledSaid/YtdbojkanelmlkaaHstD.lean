/- A row of tasks made shorter. -/
import Derived.Test.YtdbojkanelmlkaaHstC
import Derived.Test.YtdbojkanelmlkaaHstP
namespace Go.Proofs.Ytdbojkanelmlkaa
open Go.RowKit Plain
set_option linter.unusedVariables false
set_option linter.unusedSimpArgs false
/-- the cells of a slice of tasks, each v i shorter -/
def shCells (w : World) (b o n : Nat) (ts : List TK) (v : Nat → Int) : List Value :=
  (List.range (n * 4)).map fun j => if j % 4 = 0 then .int .i64 ((tkAt ts (j / 4)).a - v (j / 4)) else (w.cell? ⟨b, o + j, none⟩).getD undef
theorem shCells_len (w : World) (b o n : Nat) (ts : List TK) (v : Nat → Int) : (shCells w b o n ts v).length = n * 4 := by simp [shCells]
theorem shCells_at (w : World) (b o : Nat) {n : Nat} (ts : List TK) (v : Nat → Int) {j : Nat} (h : j < n * 4) : (shCells w b o n ts v)[j]? = some (if j % 4 = 0 then .int .i64 ((tkAt ts (j / 4)).a - v (j / 4)) else (w.cell? ⟨b, o + j, none⟩).getD undef) := by
  rw [shCells, List.getElem?_map, List.getElem?_range h]; rfl
theorem shCells_zero {w : World} {b o c : Nat} {ts : List TK} {n : Nat} (h : TA w b o c ts n) : tkCells w b o n = shCells w b o n ts fun _ => 0 := by
  rw [tkCells, shCells]
  refine List.map_congr_left fun j hj => ?_
  rw [List.mem_range] at hj
  by_cases hm : j % 4 = 0
  · rw [if_pos hm]
    obtain ⟨_, _, _, _, h0, _⟩ := h.cl (j / 4) (by omega)
    rw [show o + j = o + j / 4 * 4 by omega, h0, Option.getD_some, Int.sub_zero]
  · rw [if_neg hm]
theorem shCells_set (w : World) (b o : Nat) {n : Nat} (ts : List TK) (v : Nat → Int) {i : Nat} (hi : i < n) (x : Int) : (shCells w b o n ts v).set (i * 4) (.int .i64 ((tkAt ts i).a - x)) = shCells w b o n ts (fun m => if m = i then x else v m) := by
  refine List.ext_getElem? fun j => ?_
  rw [List.getElem?_set]
  by_cases hj : j < n * 4
  · rw [shCells_at w b o ts (fun m => if m = i then x else v m) hj]
    by_cases he : i * 4 = j
    · subst he
      rw [if_pos rfl, if_pos (by rw [shCells_len]; exact hj), if_pos (by omega), show i * 4 / 4 = i by omega, if_pos rfl]
    · rw [if_neg he, shCells_at w b o ts v hj]
      by_cases hm : j % 4 = 0
      · rw [if_pos hm, if_pos hm, if_neg (by omega)]
      · rw [if_neg hm, if_neg hm]
  · rw [if_neg (by omega), List.getElem?_eq_none (by rw [shCells_len]; omega), List.getElem?_eq_none (by rw [shCells_len]; omega)]
/-- a row with these cells is a slice of the shorter tasks -/
theorem ta_short {w w' : World} {b o c : Nat} {ts : List TK} {n : Nat} (h : TA w b o c ts n) (hb : Below w.heap.size w w') {v : Nat → Int} (hv : ∀ i, i < n → 0 ≤ v i ∧ v i ≤ (tkAt ts i).a) {base g cg : Nat} (ho : w'.ownsRow base 34 4 (.slice (some ⟨g, 0, none⟩) n cg) n (shCells w b o n ts v)) (hn : n ≤ cg) : TA w' g 0 cg (shortT ts n v) n :=
  ⟨shortT_ok h.ok hv, h.n1, h.n9, hn, fun i hi => by
    obtain ⟨Ab, cb, Al, cl, h0, h1, h2, h3, h4, h5, h6, h7⟩ := h.cl i hi
    have key : ∀ j u, 1 ≤ j → j < 4 → w.cell? ⟨b, o + i * 4 + j, none⟩ = some u → w'.cell? ⟨g, 0 + i * 4 + j, none⟩ = some u := fun j u hj1 hj hu => by
      rw [Nat.zero_add, ho.cellAt (i * 4 + j) (by omega), shCells_at w b o ts v (by omega), if_neg (by omega), ← Nat.add_assoc, hu]
      rfl
    have k0 : w'.cell? ⟨g, 0 + i * 4, none⟩ = some (.int .i64 ((tkAt ts i).a - v i)) := by
      rw [Nat.zero_add, ho.cellAt (i * 4) (by omega), shCells_at w b o ts v (by omega), if_pos (by omega), show i * 4 / 4 = i by omega]
    rw [shortT_at ts v hi]
    exact ⟨Ab, cb, Al, cl, k0, key 1 _ (by omega) (by omega) h1, key 2 _ (by omega) (by omega) h2, key 3 _ (by omega) (by omega) h3, h4.below hb, h5.below hb, h6, h7⟩⟩
end Go.Proofs.Ytdbojkanelmlkaa
