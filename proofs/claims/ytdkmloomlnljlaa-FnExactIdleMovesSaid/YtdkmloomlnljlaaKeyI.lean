/- The keys of trips, and how two numbers stand by their keys: contracts of the closures. -/
import Derived.Test.YtdkmloomlnljlaaProg
import Derived.Test.YtdkmloomlnljlaaCmpI
import Derived.Test.YtdkmloomlnljlaaTripO
namespace Go.Proofs.Ytdkmloomlnljlaa
open Go.RowKit Plain
set_option linter.unusedVariables false
set_option linter.unusedSimpArgs false
attribute [local go_sem ↓] Go.wp_at_zero Go.wp_at_succ
/-- the closures' boxes: the trips, and the key -/
structure KeyB (w : World) (bT bK : Nat) (A : Option Addr) (n cap : Nat) : Prop where
  t : w.cell? ⟨bT, 0, none⟩ = some (.slice A n cap)
  k : w.cell? ⟨bK, 0, none⟩ = some (.func (.func 21) #[] #[.pointer (some ⟨bT, 0, none⟩)])
theorem KeyB.below {w w' : World} {bT bK : Nat} {A : Option Addr} {n cap : Nat} (h : KeyB w bT bK A n cap) (hb : Below w.heap.size w w') : KeyB w' bT bK A n cap := ⟨below_at hb h.t, below_at hb h.k⟩
theorem key_any (l : List Q4) (h : tripsB l = true) (A : Option Addr) (n cap bT : Nat) (hn : l.length = n) (i : Nat) (hi : i < n) (w : World) (ht : w.cell? ⟨bT, 0, none⟩ = some (.slice A n cap)) (hr : Rd w 4 A n (q4s l)) :
    Calls Try.prog 21 #[.int .i64 i, .pointer (some ⟨bT, 0, none⟩)] w fun r w' => r = .returned (.int .i64 (sS l i)) ∧ w' = w := by
  obtain ⟨a, b, c, d, ea, es, _⟩ := trip_at h (show i < l.length by omega)
  obtain ⟨bb, off, xa, xb, xc, xd, rfl, hq, s0, s1, s2, s3⟩ := hr.q4 hi
  have e := hq.out.symm.trans ea
  cases e
  rw [es]
  have i2 : (i : Int) < (n : Int) := Int.ofNat_lt.2 hi
  clear hq s1 s2 s3 ea es hr h hn
  go_enter Try.func21, Try.ntmps21
  go_wp2
  go_ret
  exact ⟨rfl, rfl⟩
set_option maxHeartbeats 2000000 in
theorem less_any (l : List Q4) (h : tripsB l = true) (A : Option Addr) (n cap bT bK : Nat) (hn : l.length = n) (i j : Nat) (hi : i < n) (hj : j < n) (w : World) (hk : KeyB w bT bK A n cap) (hr : Rd w 4 A n (q4s l)) :
    Calls Try.prog 30 #[.int .i64 i, .int .i64 j, .pointer (some ⟨bK, 0, none⟩)] w fun r w' => r = .returned (.int .i64 (cmpI (sS l i) (sS l j))) ∧ ∃ m, w' = w.drewN m := by
  have KI := hd (fun m => key_any l h A n cap bT hn i hi (w.drewN m) hk.t (show Rd (w.drewN m) 4 A n (q4s l) from hr))
  have KJ := hd (fun m => key_any l h A n cap bT hn j hj (w.drewN m) hk.t (show Rd (w.drewN m) 4 A n (q4s l) from hr))
  have CA := hd (fun w => compare_any (sS l i) (sS l j) w)
  have ck := hk.k
  clear hk hr h hn
  generalize cmpI (sS l i) (sS l j) = z at *
  generalize sS l i = x at *
  generalize sS l j = y at *
  go_enter Try.func30, Try.ntmps30
  go_wp2
  go_quiet (first
    | (go_at_call_has 21 (Value.int .i64 i); exact Calls.quiet_of_same ((KI.out _).mono fun _ _ h => ⟨h.1, h.2⟩))
    | (go_at_call_has 21 (Value.int .i64 j); exact Calls.quiet_of_same ((KJ.out _).mono fun _ _ h => ⟨h.1, h.2⟩))
    | (go_at_call 31; exact Calls.quiet_of_same ((CA.out _).mono fun _ _ h => ⟨h.1, h.2⟩)))
  go_wp2
  go_ret
  exact ⟨rfl, _, rfl⟩
end Go.Proofs.Ytdkmloomlnljlaa
