/- The laws' helpers on slices of strings: equality, marks. -/
import Derived.Test.YtfeehfmiicleaaaSlice
import Derived.Test.YtfeehfmiicleaaaWords
import Derived.Test.YtfeehfmiicleaaaStoreOwn
import Derived.Laws.BytesArg
namespace Go.Proofs.Ytfeehfmiicleaaa
open Go.RowKit Plain
set_option linter.unusedVariables false
set_option linter.unusedSimpArgs false
attribute [local go_sem ↓] Go.wp_at_zero Go.wp_at_succ

/-- the cells of a list of strings -/
def strs (l : List ByteArray) : List Value := l.map Value.string
theorem strs_len (l : List ByteArray) : (strs l).length = l.length := by simp [strs]
theorem Rd.str {w : World} {A : Option Addr} {n : Nat} {l : List ByteArray} (h : Rd w 1 A n (strs l)) {k : Nat} (hk : k < n) : ∃ b off s, A = some ⟨b, off, none⟩ ∧ Hid (l[k]? = some s) ∧ w.cell? ⟨b, off + k, none⟩ = some (.string s) := by
  obtain ⟨h1, _, h2⟩ := h
  obtain ⟨b, off, hA, hc⟩ := h2 (by omega)
  rw [strs_len] at h1
  have hl : k < l.length := by omega
  exact ⟨b, off, l[k], hA, hd (List.getElem?_eq_getElem hl), hc k _ (by simp [strs, hl])⟩
theorem Rd.strLen {w : World} {A : Option Addr} {n : Nat} {l : List ByteArray} (h : Rd w 1 A n (strs l)) : l.length = n := by
  have := h.1; rw [strs_len] at this; omega
theorem bytes_beq (a b : ByteArray) : (a == b) = decide (a = b) := by
  obtain ⟨a⟩ := a
  obtain ⟨b⟩ := b
  show (a == b) = _
  by_cases h : a = b
  · subst h; simp
  · have h2 : ¬ (ByteArray.mk a = ByteArray.mk b) := fun e => h (by cases e; rfl)
    simp [h, h2]
theorem bytes_eq {a b : ByteArray} (h : (a.toList == b.toList) = true) : a = b := by
  rw [← beq_toListBytes, bytes_beq] at h
  exact of_decide_eq_true h
theorem bytes_ne {a b : ByteArray} (h : (a.toList == b.toList) = false) : ¬ a = b := by
  rintro rfl
  simp at h

end Go.Proofs.Ytfeehfmiicleaaa
