/- Whether a text has the letters of shifts alone: by strings.Trim, as the shelf tells it. -/
import Derived.Test.YtmjdhignhdphpaaDoorTrimL
import Derived.Test.YtmjdhignhdphpaaDoorNextT
import Derived.Test.YtmjdhignhdphpaaDoorBase
import Derived.Sort.AtCall
namespace Go.Proofs.YtmjdhignhdphpaaDoor
open Go.RowKit Go.Shelf Go.Lib Plain
set_option linter.unusedVariables false
set_option linter.unusedSimpArgs false
attribute [local go_sem ↓] Go.wp_at_zero Go.wp_at_succ

theorem drop_all {p : UInt8 → Bool} (l : List UInt8) (h : l.all p = true) : l.dropWhile p = [] := by
  induction l with
  | nil => rfl
  | cons x l ih =>
    simp only [List.all_cons, Bool.and_eq_true] at h
    rw [List.dropWhile_cons, if_pos h.1]
    exact ih h.2
theorem drop_keep {p : UInt8 → Bool} {x : UInt8} (l : List UInt8) (h : x ∈ l) (hp : p x = false) : x ∈ l.dropWhile p := by
  induction l with
  | nil => cases h
  | cons y l ih =>
    rw [List.dropWhile_cons]
    split
    · rename_i hy
      rcases List.mem_cons.1 h with e | e
      · subst e; rw [hp] at hy; cases hy
      · exact ih e
    · exact h
theorem let_mem (c : UInt8) : ([119, 46] : List UInt8).contains c = letOk c := by
  simp only [List.contains, List.elem, letOk]
  cases (c == 119) <;> cases (c == 46) <;> rfl
theorem trim_all {l : List UInt8} (h : l.all letOk = true) : Lib.trimS l [119, 46] = [] := by
  have e : (fun c => ([119, 46] : List UInt8).contains c) = letOk := by funext c; exact let_mem c
  unfold Lib.trimS Lib.trimLeftS Lib.trimRightS
  rw [e, drop_all l.reverse (by rw [List.all_reverse]; exact h)]
  rfl
theorem trim_some {l : List UInt8} (h : l.all letOk = false) : Lib.trimS l [119, 46] ≠ [] := by
  have e : (fun c => ([119, 46] : List UInt8).contains c) = letOk := by funext c; exact let_mem c
  rw [List.all_eq_false] at h
  obtain ⟨x, hx, hn⟩ := h
  have hn' : letOk x = false := by simpa using hn
  unfold Lib.trimS Lib.trimLeftS Lib.trimRightS
  rw [e]
  intro h0
  have h1 := drop_keep l.reverse (List.mem_reverse.2 hx) hn'
  have h2 := drop_keep _ (List.mem_reverse.2 h1) hn'
  rw [h0] at h2
  cases h2
set_option maxHeartbeats 1000000 in
theorem isWork_any (s : ByteArray) (w : World) (hs : s.size ≤ maxLen) :
    Calls Tryd.prog 22 #[.string s] w fun e w' => e = .returned (.bool (letB s)) ∧ Below w.heap.size w w' := by
  have hcon := Any.strings_Trim_laid YtmjdhignhdphpaaDoor.lays160 (by kernel_rfl) s ⟨#[119, 46]⟩ w (by unfold maxLen at hs; omega) (by decide) (ascii_of_all (by decide))
  change Calls Tryd.prog 25 _ _ (fun e w' => e = .returned (.string ⟨(Lib.trimS s.data.toList [119, 46]).toArray⟩) ∧ Below w.heap.size w w') at hcon
  have HC := hd hcon
  clear hcon
  cases hl : letB s with
  | true =>
    have e := trim_all hl
    rw [e] at HC
    clear hl e
    go_enter Tryd.func22, Tryd.ntmps22
    go_wp2_with (go_at_call 25; refine HC.out.mono ?_; rintro e w' ⟨rfl, hB⟩)
    go_ret
    exact ⟨rfl, hB⟩
  | false =>
    have e := trim_some hl
    obtain ⟨r, hr⟩ : ∃ r : ByteArray, r = ⟨(Lib.trimS s.data.toList [119, 46]).toArray⟩ := ⟨_, rfl⟩
    rw [← hr] at HC
    have hne : r.toList.isEmpty = false := by
      rw [Lib.toList_data, hr]
      generalize Lib.trimS s.data.toList [119, 46] = t at *
      cases t with
      | nil => exact absurd rfl e
      | cons x t => rfl
    clear hl e hr
    go_enter Tryd.func22, Tryd.ntmps22
    go_wp2_with (go_at_call 25; refine HC.out.mono ?_; rintro e w' ⟨rfl, hB⟩)
    go_ret
    exact ⟨rfl, hB⟩
end Go.Proofs.YtmjdhignhdphpaaDoor
