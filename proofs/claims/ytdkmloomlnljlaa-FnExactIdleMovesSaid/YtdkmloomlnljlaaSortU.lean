/- An insertion sort of a list that grows. No program stands here. -/
import Derived.Test.YtdkmloomlnljlaaSortT
import Derived.Test.YtdkmloomlnljlaaCmpI
namespace Go.Proofs.Ytdkmloomlnljlaa.Plain
set_option linter.unusedVariables false
set_option linter.unusedSimpArgs false
theorem getD_left (d e : List Int) {k : Nat} (h : k < d.length) : (d ++ e).getD k 0 = d.getD k 0 := by
  rw [List.getD_eq_getElem?_getD, List.getElem?_append_left h, List.getD_eq_getElem?_getD]
theorem swapL_app (d e : List Int) {j : Nat} (h : j + 1 < d.length) : swapL (d ++ e) j = swapL d j ++ e := by
  rw [swapL, swapL, getD_left d e (by omega), getD_left d e h, List.set_append_left _ _ h, List.set_append_left _ _ (by rw [List.length_set]; omega)]
theorem sinkL_app (K : Int → Int) (j : Nat) : ∀ d e : List Int, j < d.length → sinkL K j (d ++ e) = sinkL K j d ++ e := by
  induction j with
  | zero => intro d e _; rfl
  | succ j ih =>
    intro d e h
    rw [sinkL, sinkL, getD_left d e h, getD_left d e (show j < d.length by omega)]
    split
    · rw [swapL_app d e h, ih _ e (by rw [swapL_len]; omega)]
    · rfl
theorem sortL_app (K : Int → Int) (d e : List Int) (i : Nat) (h : i ≤ d.length) : sortL K (d ++ e) i = sortL K d i ++ e := by
  induction i with
  | zero => rfl
  | succ i ih => rw [sortL, sortL, ih (by omega), sinkL_app K i _ e (by rw [sortL_len]; omega)]
/-- the list at the head of round i, with the number that is put in -/
theorem sort_next (K : Int → Int) (i : Nat) : sortL K (upTo i) i ++ [(i : Int)] = sortL K (upTo (i + 1)) i := by
  rw [upTo_succ, sortL_app K _ _ i (by rw [upTo_len]; exact Nat.le_refl _)]
end Go.Proofs.Ytdkmloomlnljlaa.Plain
