/- Batches one behind the other, as the law counts them. No program stands here. -/
import Derived.Test.YtkdjeneogclocaaBatT
import Derived.Test.YtkdjeneogclocaaTabM
namespace Go.Proofs.Ytkdjeneogclocaa
open Go.RowKit Plain
set_option linter.unusedVariables false
set_option linter.unusedSimpArgs false
/-- the first k batches, the last one first -/
def dropS (s : List Nat) (k : Nat) : List Nat := s.drop (s.length - k)
def bxS (s : List Nat) (k : Nat) : Nat := s.getD (s.length - 1 - k) 0
def atS (s : List Nat) (k : Nat) : Nat := (dropS s k).sum
def cstS (T W : Nat → Int) (ch : Int) (s : List Nat) (k : Nat) : Int := bcost T W ch (dropS s k)
theorem drop_zero' (s : List Nat) : dropS s 0 = [] := by rw [dropS, Nat.sub_zero, List.drop_length]
theorem drop_all (s : List Nat) : dropS s s.length = s := by rw [dropS, Nat.sub_self]; rfl
theorem drop_succ' (s : List Nat) {k : Nat} (h : k < s.length) : dropS s (k + 1) = bxS s k :: dropS s k := by
  rw [dropS, dropS, bxS, List.drop_eq_getElem_cons (show s.length - (k + 1) < s.length by omega)]
  rw [show s.length - (k + 1) + 1 = s.length - k by omega, List.getD_eq_getElem?_getD, List.getElem?_eq_getElem (by omega)]
  simp only [Option.getD_some]
  congr 2
  omega
theorem drop_len (s : List Nat) {k : Nat} (h : k ≤ s.length) : (dropS s k).length = k := by rw [dropS, List.length_drop]; omega
theorem at_succ (s : List Nat) {k : Nat} (h : k < s.length) : atS s (k + 1) = atS s k + bxS s k := by
  rw [atS, drop_succ' s h, List.sum_cons, atS]; omega
theorem at_le (s : List Nat) : ∀ k, k ≤ s.length → atS s k ≤ s.sum := by
  intro k hk
  have h : (s.take (s.length - k)).sum + (s.drop (s.length - k)).sum = s.sum := by
    rw [← List.sum_append, List.take_append_drop]
  rw [atS, dropS]; omega
theorem bx_ok {m : Nat} {s : List Nat} (h : okS m s) {k : Nat} (hk : k < s.length) : 1 ≤ bxS s k ∧ bxS s k ≤ m := by
  rw [bxS, List.getD_eq_getElem?_getD, List.getElem?_eq_getElem (by omega)]
  exact h _ (List.getElem_mem _)
theorem bx_at (s : List Nat) {k : Nat} (hk : k < s.length) : (nl s).reverse.getD k 0 = (bxS s k : Int) := by
  rw [List.getD_eq_getElem?_getD, List.getElem?_reverse (by rw [nl, List.length_map]; exact hk), nl, List.getElem?_map, List.length_map, bxS, List.getD_eq_getElem?_getD, List.getElem?_eq_getElem (by omega)]
  rfl
/-- what stands at the end of batch k -/
def nowS (T : Nat → Int) (ch : Int) (k i : Nat) : Int := (k : Int) * ch + T i
theorem cst_succ (T W : Nat → Int) (ch : Int) (s : List Nat) {k : Nat} (h : k < s.length) : cstS T W ch s (k + 1) = cstS T W ch s k + (W (atS s (k + 1)) - W (atS s k)) * nowS T ch (k + 1) (atS s (k + 1)) := by
  rw [cstS, drop_succ' s h, bcost, drop_len s (by omega), at_succ s h, cstS, nowS, atS, show bxS s k + (dropS s k).sum = (dropS s k).sum + bxS s k by omega]
theorem now_ch (T : Nat → Int) (ch : Int) (k i : Nat) : nowS T ch k i + ch = nowS T ch (k + 1) i := by
  rw [nowS, nowS]
  push_cast
  rw [Int.add_mul, Int.one_mul]
  omega
/-- one by one -/
def oneS (T W : Nat → Int) (ch : Int) : Nat → Int
  | 0 => 0
  | i + 1 => oneS T W ch i + (W (i + 1) - W i) * nowS T ch (i + 1) (i + 1)
theorem one_cost (T W : Nat → Int) (ch : Int) (i : Nat) : oneS T W ch i = bcost T W ch (List.replicate i 1) := by
  induction i with
  | zero => rfl
  | succ i ih =>
    rw [oneS, ih, List.replicate_succ, bcost]
    have hs : (List.replicate i 1).sum = i := by simp
    rw [hs, List.length_replicate, nowS, show 1 + i = i + 1 by omega]
theorem now_bd {T W : Nat → Int} {n : Nat} (h : TWok T W n) {ch : Int} (c0 : 0 ≤ ch) (c1 : ch ≤ 10) {k i : Nat} (hk : k ≤ 9) (hi : i ≤ n) : 0 ≤ nowS T ch k i ∧ nowS T ch k i ≤ 150 := by
  have h1 := h.t0 i hi
  have h5 : 0 ≤ (k : Int) * ch := Int.mul_nonneg (by omega) c0
  have h6 : (k : Int) * ch ≤ 9 * 10 := Int.mul_le_mul (by omega) c1 c0 (by omega)
  rw [nowS]; omega
theorem cst_bd {T W : Nat → Int} {n : Nat} (h : TWok T W n) (n9 : n ≤ 9) {ch : Int} (c0 : 0 ≤ ch) (c1 : ch ≤ 10) {m : Nat} {s : List Nat} (ho : okS m s) (hs : s.sum = n) (k : Nat) (hk : k ≤ s.length) : 0 ≤ cstS T W ch s k ∧ cstS T W ch s k ≤ 10000 * k := by
  have h1 := bcost_bd h n9 c0 c1 (m := m) (dropS s k) (fun x hx => ho x (List.mem_of_mem_drop hx)) (by have := at_le s k hk; rw [atS] at this; omega)
  rw [drop_len s hk] at h1
  exact h1
end Go.Proofs.Ytkdjeneogclocaa
