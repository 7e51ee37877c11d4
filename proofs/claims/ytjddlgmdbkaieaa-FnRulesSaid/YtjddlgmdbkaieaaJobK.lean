/- The closures that compare jobs: contracts; and what their order tells. -/
import Derived.Test.YtjddlgmdbkaieaaJobS
import Derived.Test.YtjddlgmdbkaieaaJobW
namespace Go.Proofs.Ytjddlgmdbkaieaa
open Go.RowKit Plain
set_option linter.unusedVariables false
set_option linter.unusedSimpArgs false
attribute [local go_sem ↓] Go.wp_at_zero Go.wp_at_succ
/-- how much a job is worth a unit of time, for times from 1 to 9 -/
def wK (l : List Q4) (x : Int) : Int := -(2520 / (jobAt l x.toNat).a * (jobAt l x.toNat).d)
def tK (l : List Q4) (x : Int) : Int := (jobAt l x.toNat).a
def dK (l : List Q4) (x : Int) : Int := (jobAt l x.toNat).c
theorem nine {x : Int} (h0 : 1 ≤ x) (h1 : x ≤ 9) : x = 1 ∨ x = 2 ∨ x = 3 ∨ x = 4 ∨ x = 5 ∨ x = 6 ∨ x = 7 ∨ x = 8 ∨ x = 9 := by omega
theorem w_lt {a b x y : Int} (a0 : 1 ≤ a) (a1 : a ≤ 9) (b0 : 1 ≤ b) (b1 : b ≤ 9) : y * a < x * b ↔ -(2520 / a * x) < -(2520 / b * y) := by
  rcases nine a0 a1 with rfl | rfl | rfl | rfl | rfl | rfl | rfl | rfl | rfl <;> rcases nine b0 b1 with rfl | rfl | rfl | rfl | rfl | rfl | rfl | rfl | rfl <;> omega
theorem w_cmp {a b x y : Int} (a0 : 1 ≤ a) (a1 : a ≤ 9) (b0 : 1 ≤ b) (b1 : b ≤ 9) : cmpI (y * a) (x * b) = cmpI (-(2520 / a * x)) (-(2520 / b * y)) := by
  have e1 := w_lt (x := x) (y := y) a0 a1 b0 b1
  have e2 := w_lt (x := y) (y := x) b0 b1 a0 a1
  simp only [cmpI, e1, e2]
/-- the closures' boxes: the jobs, and the key -/
structure KeyT (F : Nat) (w : World) (bT bK : Nat) (A : Option Addr) (n cap : Nat) (l : List Q4) : Prop where
  t : w.cell? ⟨bT, 0, none⟩ = some (.slice A n cap)
  k : w.cell? ⟨bK, 0, none⟩ = some (.func (.func F) #[] #[.pointer (some ⟨bT, 0, none⟩)])
  r : Rd w 4 A n (q4s l)
theorem KeyT.below {F : Nat} {w w' : World} {bT bK : Nat} {A : Option Addr} {n cap : Nat} {l : List Q4} (h : KeyT F w bT bK A n cap l) (hb : Below w.heap.size w w') : KeyT F w' bT bK A n cap l := ⟨below_at hb h.t, below_at hb h.k, h.r.below hb⟩
theorem KeyT.grown {F : Nat} {w w' : World} {bT bK g : Nat} {A : Option Addr} {n cap : Nat} {l : List Q4} (h : KeyT F w bT bK A n cap l) (hg : w.grownBy w' (some g)) (e1 : bT ≠ g) (e2 : bK ≠ g) (e3 : A.map (·.block) ≠ some g) : KeyT F w' bT bK A n cap l :=
  ⟨hg.cell h.t (by simp; omega), hg.cell h.k (by simp; omega), h.r.grown hg (.inl e3)⟩
theorem keyT_any (l : List Q4) (A : Option Addr) (n cap bT : Nat) (i : Nat) (hi : i < n) (w : World) (ht : w.cell? ⟨bT, 0, none⟩ = some (.slice A n cap)) (hr : Rd w 4 A n (q4s l)) :
    Calls Try.prog 34 #[.int .i64 i, .pointer (some ⟨bT, 0, none⟩)] w fun r w' => r = .returned (.int .i64 (tK l i)) ∧ w' = w := by
  obtain ⟨bb, off, xa, xb, xc, xd, rfl, hq, s0, s1, s2, s3⟩ := hr.q4 hi
  have e : tK l i = xa := by rw [tK, Int.toNat_natCast, jobAt_at hq.out]
  rw [e]
  have i2 : (i : Int) < (n : Int) := Int.ofNat_lt.2 hi
  clear hq s1 s2 s3 hr e
  go_enter Try.func34, Try.ntmps34
  go_wp2
  go_ret
  exact ⟨rfl, rfl⟩
set_option maxHeartbeats 2000000 in
theorem lessT_any (l : List Q4) (A : Option Addr) (n cap bT bK : Nat) (i j : Nat) (hi : i < n) (hj : j < n) (w : World) (hk : KeyT 34 w bT bK A n cap l) :
    Calls Try.prog 44 #[.int .i64 i, .int .i64 j, .pointer (some ⟨bK, 0, none⟩)] w fun r w' => r = .returned (.int .i64 (cmpI (tK l i) (tK l j))) ∧ ∃ m, w' = w.drewN m := by
  have KI := hd (fun m => keyT_any l A n cap bT i hi (w.drewN m) hk.t (show Rd (w.drewN m) 4 A n (q4s l) from hk.r))
  have KJ := hd (fun m => keyT_any l A n cap bT j hj (w.drewN m) hk.t (show Rd (w.drewN m) 4 A n (q4s l) from hk.r))
  have CA := hd (fun w => compare_any (tK l i) (tK l j) w)
  have ck := hk.k
  clear hk
  generalize cmpI (tK l i) (tK l j) = z at *
  generalize tK l i = x at *
  generalize tK l j = y at *
  go_enter Try.func44, Try.ntmps44
  go_wp2
  go_quiet (first
    | (go_at_call_has 34 (Value.int .i64 i); exact Calls.quiet_of_same ((KI.out _).mono fun _ _ h => ⟨h.1, h.2⟩))
    | (go_at_call_has 34 (Value.int .i64 j); exact Calls.quiet_of_same ((KJ.out _).mono fun _ _ h => ⟨h.1, h.2⟩))
    | (go_at_call 40; exact Calls.quiet_of_same ((CA.out _).mono fun _ _ h => ⟨h.1, h.2⟩)))
  go_wp2
  go_ret
  exact ⟨rfl, _, rfl⟩
theorem keyD_any (l : List Q4) (A : Option Addr) (n cap bT : Nat) (i : Nat) (hi : i < n) (w : World) (ht : w.cell? ⟨bT, 0, none⟩ = some (.slice A n cap)) (hr : Rd w 4 A n (q4s l)) :
    Calls Try.prog 35 #[.int .i64 i, .pointer (some ⟨bT, 0, none⟩)] w fun r w' => r = .returned (.int .i64 (dK l i)) ∧ w' = w := by
  obtain ⟨bb, off, xa, xb, xc, xd, rfl, hq, s0, s1, s2, s3⟩ := hr.q4 hi
  have e : dK l i = xc := by rw [dK, Int.toNat_natCast, jobAt_at hq.out]
  rw [e]
  have i2 : (i : Int) < (n : Int) := Int.ofNat_lt.2 hi
  clear hq s0 s1 s3 hr e
  go_enter Try.func35, Try.ntmps35
  go_wp2
  go_ret
  exact ⟨rfl, rfl⟩
set_option maxHeartbeats 2000000 in
theorem lessD_any (l : List Q4) (A : Option Addr) (n cap bT bK : Nat) (i j : Nat) (hi : i < n) (hj : j < n) (w : World) (hk : KeyT 35 w bT bK A n cap l) :
    Calls Try.prog 44 #[.int .i64 i, .int .i64 j, .pointer (some ⟨bK, 0, none⟩)] w fun r w' => r = .returned (.int .i64 (cmpI (dK l i) (dK l j))) ∧ ∃ m, w' = w.drewN m := by
  have KI := hd (fun m => keyD_any l A n cap bT i hi (w.drewN m) hk.t (show Rd (w.drewN m) 4 A n (q4s l) from hk.r))
  have KJ := hd (fun m => keyD_any l A n cap bT j hj (w.drewN m) hk.t (show Rd (w.drewN m) 4 A n (q4s l) from hk.r))
  have CA := hd (fun w => compare_any (dK l i) (dK l j) w)
  have ck := hk.k
  clear hk
  generalize cmpI (dK l i) (dK l j) = z at *
  generalize dK l i = x at *
  generalize dK l j = y at *
  go_enter Try.func44, Try.ntmps44
  go_wp2
  go_quiet (first
    | (go_at_call_has 35 (Value.int .i64 i); exact Calls.quiet_of_same ((KI.out _).mono fun _ _ h => ⟨h.1, h.2⟩))
    | (go_at_call_has 35 (Value.int .i64 j); exact Calls.quiet_of_same ((KJ.out _).mono fun _ _ h => ⟨h.1, h.2⟩))
    | (go_at_call 40; exact Calls.quiet_of_same ((CA.out _).mono fun _ _ h => ⟨h.1, h.2⟩)))
  go_wp2
  go_ret
  exact ⟨rfl, _, rfl⟩
set_option maxHeartbeats 2000000 in
theorem lessW_any (l : List Q4) (h9 : ∀ q ∈ l, (1 ≤ q.a ∧ q.a ≤ 9) ∧ 0 ≤ q.d ∧ q.d ≤ 10000) (A : Option Addr) (n cap bT : Nat) (i j : Nat) (hi : i < n) (hj : j < n) (w : World) (ht : w.cell? ⟨bT, 0, none⟩ = some (.slice A n cap)) (hr : Rd w 4 A n (q4s l)) :
    Calls Try.prog 39 #[.int .i64 i, .int .i64 j, .pointer (some ⟨bT, 0, none⟩)] w fun r w' => r = .returned (.int .i64 (cmpI (wK l i) (wK l j))) ∧ ∃ m, w' = w.drewN m := by
  obtain ⟨bb, off, xa, xb, xc, xd, rfl, hq, s0, s1, s2, s3⟩ := hr.q4 hi
  obtain ⟨_, _, ya, yb, yc, yd, e0, hq', t0, t1, t2, t3⟩ := hr.q4 hj
  cases e0
  obtain ⟨⟨a0, a1⟩, d0, d1⟩ := h9 _ (List.mem_of_getElem? hq.out)
  obtain ⟨⟨a0', a1'⟩, d0', d1'⟩ := h9 _ (List.mem_of_getElem? hq'.out)
  simp only at a0 a1 d0 d1 a0' a1' d0' d1'
  have e : cmpI (wK l i) (wK l j) = cmpI (yd * xa) (xd * ya) := by rw [wK, wK, Int.toNat_natCast, Int.toNat_natCast, jobAt_at hq.out, jobAt_at hq'.out, w_cmp a0 a1 a0' a1']
  rw [e]
  have CA := hd (fun w => compare_any (yd * xa) (xd * ya) w)
  have b1 : 0 ≤ yd * xa ∧ yd * xa ≤ 90000 := ⟨Int.mul_nonneg d0' (by omega), Int.le_trans (Int.mul_le_mul_of_nonneg_right d1' (by omega)) (by omega)⟩
  have b2 : 0 ≤ xd * ya ∧ xd * ya ≤ 90000 := ⟨Int.mul_nonneg d0 (by omega), Int.le_trans (Int.mul_le_mul_of_nonneg_right d1 (by omega)) (by omega)⟩
  have w1 : IntKind.i64.wrap (yd * xa) = yd * xa := IntWalk.i64_in _ (by omega)
  have w2 : IntKind.i64.wrap (xd * ya) = xd * ya := IntWalk.i64_in _ (by omega)
  have i2 : (i : Int) < (n : Int) := Int.ofNat_lt.2 hi
  have j2 : (j : Int) < (n : Int) := Int.ofNat_lt.2 hj
  generalize cmpI (yd * xa) (xd * ya) = z at *
  clear hq hq' s1 s2 t1 t2 hr e a0 a1 d0 d1 a0' a1' d0' d1' h9 b1 b2
  go_enter Try.func39, Try.ntmps39
  go_wp2
  go_quiet ((go_at_call 40; exact Calls.quiet_of_same ((CA.out _).mono fun _ _ h => ⟨h.1, h.2⟩)))
  go_wp2
  go_ret
  exact ⟨rfl, _, rfl⟩
end Go.Proofs.Ytjddlgmdbkaieaa
