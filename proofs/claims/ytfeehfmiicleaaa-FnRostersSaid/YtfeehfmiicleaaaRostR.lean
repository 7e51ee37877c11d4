/- Patterns and turned patterns as bytes: what the law on rosters asks of them. -/
import Derived.Test.YtfeehfmiicleaaaProg
import Derived.Test.YtfeehfmiicleaaaRotI
import Derived.Test.YtfeehfmiicleaaaRunR
namespace Go.Proofs.Ytfeehfmiicleaaa
open Go.RowKit Plain
set_option linter.unusedVariables false
set_option linter.unusedSimpArgs false
theorem bs_append (a b : ByteArray) : bs (a ++ b) = bs a ++ bs b := by
  simp [bs, ByteArray.data_append]
theorem bs_nums {l : List Int} (h : ∀ x ∈ l, 0 ≤ x ∧ x < 256) : bs (strOfNums l) = l := by
  rw [bs, strOfNums_data]
  simp only [List.map_map]
  conv => rhs; rw [← List.map_id l]
  apply List.map_congr_left
  intro x hx
  have := h x hx
  simp only [Function.comp_apply, id]
  obtain ⟨n, rfl⟩ := Int.eq_ofNat_of_zero_le this.1
  simp
  omega
/-- a pattern of n letters -/
def PatOk (s : ByteArray) (n : Nat) : Prop := s.size = n ∧ ∀ x ∈ bs s, x = 100 ∨ x = 110 ∨ x = 46
theorem pat_start : PatOk ByteArray.empty 0 := ⟨rfl, fun x hx => by simp [bs] at hx⟩
theorem pat_step {s : ByteArray} {n : Nat} (h : PatOk s n) {c : UInt8} (hc : (c.toNat : Int) = 100 ∨ (c.toNat : Int) = 110 ∨ (c.toNat : Int) = 46) : PatOk (s ++ ⟨#[c]⟩) (n + 1) := by
  refine ⟨by rw [ByteArray.size_append, h.1]; rfl, fun x hx => ?_⟩
  rw [bs_append] at hx
  rcases List.mem_append.1 hx with h1 | h1
  · exact h.2 x h1
  · have : x = (c.toNat : Int) := by simpa [bs] using h1
    rw [this]; exact hc
theorem pat_B {s : ByteArray} {n : Nat} (h : PatOk s n) (h1 : 1 ≤ n) (most : Int) (h2 : (n : Int) ≤ most) : patB (bs s) most = true := by
  simp only [patB, Bool.and_eq_true, decide_eq_true_eq, List.all_eq_true, bs_len, h.1]
  refine ⟨fun x hx => ?_, by omega, h2⟩
  rcases h.2 x hx with rfl | rfl | rfl <;> decide
theorem row_bd {s : ByteArray} {n : Nat} (h : PatOk s n) (h1 : 1 ≤ n) (x d : Nat) : ∀ y ∈ RotI.rowR s x d, y = 100 ∨ y = 110 ∨ y = 46 := by
  intro y hy
  obtain ⟨j, _, rfl⟩ := List.mem_map.1 hy
  have hlt : (j + x) % s.size < (bs s).length := by rw [bs_len, h.1]; exact Nat.mod_lt _ h1
  rw [List.getD_eq_getElem?_getD, List.getElem?_eq_getElem hlt]
  exact h.2 _ (List.getElem_mem hlt)
theorem text_bs {s : ByteArray} {n : Nat} (h : PatOk s n) (h1 : 1 ≤ n) (x d : Nat) : bs (RotI.textR s x d) = RotI.rowR s x d := by
  rw [RotI.textR]
  refine bs_nums fun y hy => ?_
  rcases row_bd h h1 x d y hy with rfl | rfl | rfl <;> decide
theorem text_pat {s : ByteArray} {n : Nat} (h : PatOk s n) (h1 : 1 ≤ n) (x d : Nat) : PatOk (RotI.textR s x d) d :=
  ⟨RotI.text_size s x d, by rw [text_bs h h1]; exact row_bd h h1 x d⟩
/-- a letter of a turned pattern -/
theorem text_letter {s : ByteArray} {n : Nat} (h : PatOk s n) (h1 : 1 ≤ n) (x d j : Nat) (hj : j < d) (hj2 : j < (RotI.textR s x d).size) (hm : (j + x) % n < s.size) : ((RotI.textR s x d)[j].toNat : Int) = (s[(j + x) % n].toNat : Int) := by
  have e1 := RotI.bs_at hj2
  have e2 := RotI.bs_at hm
  rw [← e1, ← e2, text_bs h h1, RotI.rowR, List.getD_eq_getElem?_getD, List.getElem?_map, List.getElem?_range hj, h.1]
  rfl
theorem list_at {s : ByteArray} {st dn p i : Nat} (hi : i < p) : (RotI.listR s st dn p)[i]? = some (RotI.textR s (i * st) dn) := by
  rw [RotI.listR, List.getElem?_map, List.getElem?_range hi]
  rfl
/-- the runs of the days, and of twice the days -/
theorem runs_twice {s : ByteArray} {n : Nat} (h : PatOk s n) (h1 : 1 ≤ n) (h2 : n ≤ 64) :
    ∃ a b c e : Int, RunR.M (bs s) = (a, b, true) ∧ RunR.M (bs (s ++ s)) = (c, e, true) ∧ 0 ≤ a ∧ 0 ≤ b ∧ 1 ≤ a + b ∧ a ≤ n ∧ a ≤ c ∧ b ≤ e ∧ b ≤ n := by
  have hp2 : PatOk (s ++ s) (n + n) := ⟨by rw [ByteArray.size_append, h.1], fun x hx => by
    rw [bs_append] at hx
    rcases List.mem_append.1 hx with h5 | h5
    · exact h.2 x h5
    · exact h.2 x h5⟩
  have m1 : RunR.M (bs s) = ((RunR.rrTo (bs s) (bs s).length).p, (RunR.rrTo (bs s) (bs s).length).q, true) := by rw [RunR.M, pat_B h h1 128 (by omega)]; rfl
  have m2 : RunR.M (bs (s ++ s)) = ((RunR.rrTo (bs (s ++ s)) (bs (s ++ s)).length).p, (RunR.rrTo (bs (s ++ s)) (bs (s ++ s)).length).q, true) := by rw [RunR.M, pat_B hp2 (by omega) 128 (by omega)]; rfl
  have t := RunR.rr_twice (bs s)
  rw [← bs_append] at t
  have hne : bs s ≠ [] := fun e => by have := bs_len s; rw [e, h.1] at this; simp at this; omega
  have b := RunR.rr_bd (bs s) (bs s).length
  have sm := RunR.rr_some hne
  have hl := bs_len s
  rw [h.1] at hl
  exact ⟨_, _, _, _, m1, m2, by omega, by omega, sm, by omega, t.1, t.2, by omega⟩
end Go.Proofs.Ytfeehfmiicleaaa
