/- Texts of days. -/
import Derived.Test.YtfeehfmiicleaaaNum
import Derived.Test.YtfeehfmiicleaaaWords
namespace Go.Proofs.Ytfeehfmiicleaaa
open Go.RowKit Plain
set_option linter.unusedVariables false
set_option linter.unusedSimpArgs false
attribute [local go_sem ↓] Go.wp_at_zero Go.wp_at_succ

/-- the letters of a text as numbers -/
def bs (s : ByteArray) : List Int := s.data.toList.map fun c => (c.toNat : Int)
theorem bs_len (s : ByteArray) : (bs s).length = s.size := by simp [bs]
theorem bs_get {s : ByteArray} {k : Nat} (h : k < s.size) : (bs s)[k]? = some (s[k].toNat : Int) := by
  rw [bs, List.getElem?_map, List.getElem?_eq_getElem (by simpa using h)]; rfl
/-- a letter of days -/
def dayB (c : Int) : Bool := c == 46 || inR c 97 122
/-- a text of 1 to most letters of days -/
def patB (l : List Int) (most : Int) : Bool := l.all dayB && (decide (1 ≤ (l.length : Int)) && decide ((l.length : Int) ≤ most))
theorem day_cases (c : Int) : ((c != 46) = false ∧ dayB c = true) ∨ ((c != 46) = true ∧ 97 ≤ c ∧ c ≤ 122 ∧ dayB c = true) ∨ ((c != 46) = true ∧ c < 97 ∧ dayB c = false) ∨ ((c != 46) = true ∧ 97 ≤ c ∧ 122 < c ∧ dayB c = false) := by
  simp only [dayB, inR, bne_iff_ne, bne_eq_false_iff_eq, Bool.or_eq_true, Bool.or_eq_false_iff, Bool.and_eq_true, Bool.and_eq_false_iff, decide_eq_true_eq, decide_eq_false_iff_not, beq_iff_eq, beq_eq_false_iff_ne]
  omega

set_option maxHeartbeats 1000000 in
theorem isPattern_any (s : ByteArray) (most : Int) (w : World) (hs : s.size ≤ maxLen) :
    Calls Try.prog 13 #[.string s, .int .i64 most] w fun r w' => r = .returned (.bool (patB (bs s) most)) ∧ w = w' := by
  unfold maxLen at hs
  go_enter Try.func13, Try.ntmps13
  go_wp2
  go_loop [8] (fun i => ∃ k : Nat, k ≤ s.size ∧ i = .int .i64 k ∧ Hid (((bs s).take k).all dayB = true)) (fun i => s.size - (intOf i).toNat)
  case atStart => exact ⟨0, by omega, rfl, by simp [Hid]⟩
  case round =>
    obtain ⟨k, hk, rfl, ha⟩ := hrel
    by_cases hlt : k < s.size
    · have Hg := hd (bs_get hlt)
      rcases day_cases (s[k].toNat : Int) with ⟨h1, hd0⟩ | ⟨h1, h2, h3, hd0⟩ | ⟨h1, h2, hd0⟩ | ⟨h1, h2, h3, hd0⟩
      case inl =>
        have Hd := hd hd0
        clear hd0
        go_wp2
        go_round
        case rel => exact ⟨k + 1, by omega, by go_num, all_take_of ha.out Hg.out Hd.out⟩
        case measure => simp [intOf]; omega
      case inr.inl =>
        have Hd := hd hd0
        clear hd0
        go_wp2
        go_round
        case rel => exact ⟨k + 1, by omega, by go_num, all_take_of ha.out Hg.out Hd.out⟩
        case measure => simp [intOf]; omega
      all_goals
        have Hd := hd (show patB (bs s) most = false by rw [patB, all_false_of Hg.out hd0]; rfl)
        clear hd0
        go_wp2
        all_goals first
          | (go_ret; exact ⟨ret_bool Hd.out.symm, rfl⟩)
          | (exfalso; rename_i h; simp at h; omega)
    · have Hd := hd (show (bs s).all dayB = true from all_whole ha.out (by rw [bs_len]; omega))
      have Hl := hd (bs_len s)
      go_wp2
      all_goals
        go_ret
        refine ⟨ret_bool ?_, rfl⟩
        rw [patB, Hd.out, Hl.out, Bool.eq_iff_iff]
        simp
        try omega

end Go.Proofs.Ytfeehfmiicleaaa
