/- The reference's test of a rule of shifts: one large test that draws its order. -/
import Derived.Test.YtmjdhignhdphpaaDoorCrews
namespace Go.Proofs.YtmjdhignhdphpaaDoor
open Go.RowKit Plain
set_option linter.unusedVariables false
set_option linter.unusedSimpArgs false
attribute [local go_sem ↓] Go.wp_at_zero Go.wp_at_succ
set_option maxHeartbeats 400000 in
theorem l06Is_0 (a b c d e : Int) (g o : Nat) (w : World) (h0 : w.cell? ⟨g, o, none⟩ = some (.int .i64 a)) (h1 : w.cell? ⟨g, o + 1, none⟩ = some (.int .i64 b)) (h2 : w.cell? ⟨g, o + 2, none⟩ = some (.int .i64 c)) (h3 : w.cell? ⟨g, o + 3, none⟩ = some (.int .i64 d)) (h4 : w.cell? ⟨g, o + 4, none⟩ = some (.int .i64 e))  (k0 : inR a 1 24 = false) :
    Calls Tryd.prog 10 #[.pointer (some ⟨g, o, none⟩)] w (Draws (.bool (false)) w) := by
  go_enter Tryd.func10, Tryd.ntmps10
  go_wp2
  go_quiet ((go_at_call 19; first | exact Calls.quiet_of_same (l00In_t _ _ _ _ (by assumption)) | exact Calls.quiet_of_same (l00In_f _ _ _ _ (by assumption))))
  go_wp2
  go_ret
  exact ⟨rfl, _, rfl⟩
set_option maxHeartbeats 400000 in
theorem l06Is_1 (a b c d e : Int) (g o : Nat) (w : World) (h0 : w.cell? ⟨g, o, none⟩ = some (.int .i64 a)) (h1 : w.cell? ⟨g, o + 1, none⟩ = some (.int .i64 b)) (h2 : w.cell? ⟨g, o + 2, none⟩ = some (.int .i64 c)) (h3 : w.cell? ⟨g, o + 3, none⟩ = some (.int .i64 d)) (h4 : w.cell? ⟨g, o + 4, none⟩ = some (.int .i64 e)) (k0 : inR a 1 24 = true) (k1 : inR c 0 a = false) :
    Calls Tryd.prog 10 #[.pointer (some ⟨g, o, none⟩)] w (Draws (.bool (false)) w) := by
  go_enter Tryd.func10, Tryd.ntmps10
  go_wp2
  go_quiet ((go_at_call 19; first | exact Calls.quiet_of_same (l00In_t _ _ _ _ (by assumption)) | exact Calls.quiet_of_same (l00In_f _ _ _ _ (by assumption))))
  go_wp2
  go_ret
  exact ⟨rfl, _, rfl⟩
set_option maxHeartbeats 400000 in
theorem l06Is_2 (a b c d e : Int) (g o : Nat) (w : World) (h0 : w.cell? ⟨g, o, none⟩ = some (.int .i64 a)) (h1 : w.cell? ⟨g, o + 1, none⟩ = some (.int .i64 b)) (h2 : w.cell? ⟨g, o + 2, none⟩ = some (.int .i64 c)) (h3 : w.cell? ⟨g, o + 3, none⟩ = some (.int .i64 d)) (h4 : w.cell? ⟨g, o + 4, none⟩ = some (.int .i64 e)) (k0 : inR a 1 24 = true) (k1 : inR c 0 a = true) (k2 : inR b 0 c = false) :
    Calls Tryd.prog 10 #[.pointer (some ⟨g, o, none⟩)] w (Draws (.bool (false)) w) := by
  go_enter Tryd.func10, Tryd.ntmps10
  go_wp2
  go_quiet ((go_at_call 19; first | exact Calls.quiet_of_same (l00In_t _ _ _ _ (by assumption)) | exact Calls.quiet_of_same (l00In_f _ _ _ _ (by assumption))))
  go_wp2
  go_ret
  exact ⟨rfl, _, rfl⟩
set_option maxHeartbeats 400000 in
theorem l06Is_3 (a b c d e : Int) (g o : Nat) (w : World) (h0 : w.cell? ⟨g, o, none⟩ = some (.int .i64 a)) (h1 : w.cell? ⟨g, o + 1, none⟩ = some (.int .i64 b)) (h2 : w.cell? ⟨g, o + 2, none⟩ = some (.int .i64 c)) (h3 : w.cell? ⟨g, o + 3, none⟩ = some (.int .i64 d)) (h4 : w.cell? ⟨g, o + 4, none⟩ = some (.int .i64 e)) (k0 : inR a 1 24 = true) (k1 : inR c 0 a = true) (k2 : inR b 0 c = true) (k3 : inR d 1 a = false) :
    Calls Tryd.prog 10 #[.pointer (some ⟨g, o, none⟩)] w (Draws (.bool (false)) w) := by
  go_enter Tryd.func10, Tryd.ntmps10
  go_wp2
  go_quiet ((go_at_call 19; first | exact Calls.quiet_of_same (l00In_t _ _ _ _ (by assumption)) | exact Calls.quiet_of_same (l00In_f _ _ _ _ (by assumption))))
  go_wp2
  go_ret
  exact ⟨rfl, _, rfl⟩
set_option maxHeartbeats 400000 in
theorem l06Is_4t (a b c d e : Int) (g o : Nat) (w : World) (h0 : w.cell? ⟨g, o, none⟩ = some (.int .i64 a)) (h1 : w.cell? ⟨g, o + 1, none⟩ = some (.int .i64 b)) (h2 : w.cell? ⟨g, o + 2, none⟩ = some (.int .i64 c)) (h3 : w.cell? ⟨g, o + 3, none⟩ = some (.int .i64 d)) (h4 : w.cell? ⟨g, o + 4, none⟩ = some (.int .i64 e)) (k0 : inR a 1 24 = true) (k1 : inR c 0 a = true) (k2 : inR b 0 c = true) (k3 : inR d 1 a = true) (k4 : inR e 1 a = true) :
    Calls Tryd.prog 10 #[.pointer (some ⟨g, o, none⟩)] w (Draws (.bool true) w) := by
  go_enter Tryd.func10, Tryd.ntmps10
  go_wp2
  go_quiet ((go_at_call 19; first | exact Calls.quiet_of_same (l00In_t _ _ _ _ (by assumption)) | exact Calls.quiet_of_same (l00In_f _ _ _ _ (by assumption))))
  go_wp2
  go_ret
  exact ⟨rfl, _, rfl⟩
set_option maxHeartbeats 400000 in
theorem l06Is_4f (a b c d e : Int) (g o : Nat) (w : World) (h0 : w.cell? ⟨g, o, none⟩ = some (.int .i64 a)) (h1 : w.cell? ⟨g, o + 1, none⟩ = some (.int .i64 b)) (h2 : w.cell? ⟨g, o + 2, none⟩ = some (.int .i64 c)) (h3 : w.cell? ⟨g, o + 3, none⟩ = some (.int .i64 d)) (h4 : w.cell? ⟨g, o + 4, none⟩ = some (.int .i64 e)) (k0 : inR a 1 24 = true) (k1 : inR c 0 a = true) (k2 : inR b 0 c = true) (k3 : inR d 1 a = true) (k4 : inR e 1 a = false) :
    Calls Tryd.prog 10 #[.pointer (some ⟨g, o, none⟩)] w (Draws (.bool false) w) := by
  go_enter Tryd.func10, Tryd.ntmps10
  go_wp2
  go_quiet ((go_at_call 19; first | exact Calls.quiet_of_same (l00In_t _ _ _ _ (by assumption)) | exact Calls.quiet_of_same (l00In_f _ _ _ _ (by assumption))))
  go_wp2
  go_ret
  exact ⟨rfl, _, rfl⟩
theorem l06Is_any (r : SR) (g o : Nat) (w : World) (h : SRat w g o r) :
    Calls Tryd.prog 10 #[.pointer (some ⟨g, o, none⟩)] w (Draws (.bool (validS r)) w) := by
  obtain ⟨a, b, c, d, e⟩ := r
  obtain ⟨h0, h1, h2, h3, h4⟩ := h
  simp only at h0 h1 h2 h3 h4
  cases k0 : inR a 1 24 with
  | false => rw [show validS ⟨a, b, c, d, e⟩ = false by simp [validS, k0]]; exact l06Is_0 a b c d e g o w h0 h1 h2 h3 h4 k0
  | true =>
  cases k1 : inR c 0 a with
  | false => rw [show validS ⟨a, b, c, d, e⟩ = false by simp [validS, k1]]; exact l06Is_1 a b c d e g o w h0 h1 h2 h3 h4 k0 k1
  | true =>
  cases k2 : inR b 0 c with
  | false => rw [show validS ⟨a, b, c, d, e⟩ = false by simp [validS, k2]]; exact l06Is_2 a b c d e g o w h0 h1 h2 h3 h4 k0 k1 k2
  | true =>
  cases k3 : inR d 1 a with
  | false => rw [show validS ⟨a, b, c, d, e⟩ = false by simp [validS, k3]]; exact l06Is_3 a b c d e g o w h0 h1 h2 h3 h4 k0 k1 k2 k3
  | true =>
  cases k4 : inR e 1 a with
  | false => rw [show validS ⟨a, b, c, d, e⟩ = false by simp [validS, k4]]; exact l06Is_4f a b c d e g o w h0 h1 h2 h3 h4 k0 k1 k2 k3 k4
  | true => rw [show validS ⟨a, b, c, d, e⟩ = true by simp [validS, k0, k1, k2, k3, k4]]; exact l06Is_4t a b c d e g o w h0 h1 h2 h3 h4 k0 k1 k2 k3 k4
end Go.Proofs.YtmjdhignhdphpaaDoor
