/- The numbers up to n, as a list. No program stands here. -/
import Derived.Test.YtkaopdpdfbkchaaPlain
import Derived.Test.YtkaopdpdfbkchaaSortT
namespace Go.Proofs.Ytkaopdpdfbkchaa.Plain
set_option linter.unusedVariables false
set_option linter.unusedSimpArgs false
def upTo (n : Nat) : List Int := (List.range n).map fun i : Nat => (i : Int)
theorem upTo_succ (n : Nat) : upTo (n + 1) = upTo n ++ [(n : Int)] := by simp [upTo, List.range_succ]
theorem upTo_len (n : Nat) : (upTo n).length = n := by simp [upTo]
theorem inL_upTo (n : Nat) : inL n (upTo n) := by
  intro k hk
  rw [upTo_len] at hk
  rw [upTo, List.getD_eq_getElem?_getD, List.getElem?_map, List.getElem?_range hk]
  simp
  omega
theorem oneL_upTo (n : Nat) : oneL (upTo n) := by
  have e : ∀ k, k < n → (upTo n).getD k 0 = (k : Int) := fun k hk => by
    rw [upTo, List.getD_eq_getElem?_getD, List.getElem?_map, List.getElem?_range hk]; rfl
  intro a b ha hb h
  rw [upTo_len] at ha hb
  rw [e a ha, e b hb] at h
  omega
end Go.Proofs.Ytkaopdpdfbkchaa.Plain
