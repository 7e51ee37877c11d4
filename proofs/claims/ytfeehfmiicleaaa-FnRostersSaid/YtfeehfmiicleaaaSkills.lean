/- Sets of skills: whether lists are valid, and whether one has another, on both sides. -/
import Derived.Test.YtfeehfmiicleaaaProg
import Derived.Test.YtfeehfmiicleaaaMatchT
import Derived.Test.YtfeehfmiicleaaaNum
import Derived.Test.YtfeehfmiicleaaaSlice
namespace Go.Proofs.Ytfeehfmiicleaaa
open Go.RowKit Plain
set_option linter.unusedVariables false
set_option linter.unusedSimpArgs false
attribute [local go_sem ↓] Go.wp_at_zero Go.wp_at_succ

def skB (l : List Int) : Bool := manyIn l 1 12 0 255
theorem all_takeI {l : List Int} {k : Nat} {p : Int → Bool} (h : (l.take k).all p = true) (hk : k < l.length) (hp : p (l.getD k 0) = true) : (l.take (k + 1)).all p = true := by
  rw [List.take_add_one, List.getElem?_eq_getElem hk, List.all_append, h]
  rw [List.getD_eq_getElem?_getD, List.getElem?_eq_getElem hk] at hp
  simpa using hp
theorem all_falseI {l : List Int} {k : Nat} {p : Int → Bool} (hk : k < l.length) (hp : p (l.getD k 0) = false) : l.all p = false := by
  rw [List.getD_eq_getElem?_getD, List.getElem?_eq_getElem hk] at hp
  rw [List.all_eq_false]
  exact ⟨l[k], List.getElem_mem hk, by simpa using hp⟩

set_option maxHeartbeats 400000 in
theorem areSkills_any (v : Value) (xs : List Int) (w : World) (hs : Sl w 1 v xs.length (xs.map vi)) :
    Calls Try.prog 21 #[v] w fun r w' => r = .returned (.bool (skB xs)) ∧ w' = w := by
  have H := hd (areMany_any v xs 1 12 0 255 w hs)
  obtain ⟨A, cap, rfl, hcap, hr⟩ := hs
  go_enter Try.func21, Try.ntmps21
  go_wp2_with (go_at_call 16; refine H.out.mono ?_; rintro e w' ⟨rfl, rfl⟩)
  go_ret
  exact ⟨rfl, rfl⟩

def anB (a b : Int) : Bool := bits BinOp.andNot IntKind.i64 a b == 0
def fitM (tasks people : List Int) (i k : Nat) : Bool := anB (tasks.getD i 0) (people.getD k 0)
set_option maxHeartbeats 1000000 in
theorem fit_any (tasks people : List Int) (x1 x2 : Nat) (v1 v2 : Value) (w : World) (h1 : Sl w 1 v1 tasks.length (tasks.map vi)) (h2 : Sl w 1 v2 people.length (people.map vi)) (l1 : tasks.length ≤ 12) (l2 : people.length ≤ 12)
    (c1 : w.cell? ⟨x1, 0, none⟩ = some v1) (c2 : w.cell? ⟨x2, 0, none⟩ = some v2) (i k : Nat) (hi : i < tasks.length) (hk : k < people.length) :
    Calls Try.prog 23 #[.int .i64 i, .int .i64 k, .pointer (some ⟨x1, 0, none⟩), .pointer (some ⟨x2, 0, none⟩)] w fun e w2 => e = .returned (.bool (fitM tasks people i k)) ∧ Below w.heap.size w w2 := by
  obtain ⟨A1, p1, rfl, hp1, r1⟩ := h1
  obtain ⟨A2, p2, rfl, hp2, r2⟩ := h2
  obtain ⟨b1, o1, rfl, d1⟩ := r1.int hi
  obtain ⟨b2, o2, rfl, d2⟩ := r2.int hk
  have F := hd (show fitM tasks people i k = anB (tasks.getD i 0) (people.getD k 0) from rfl)
  generalize tasks.getD i 0 = a at *
  generalize people.getD k 0 = b at *
  generalize tasks.length = n1 at *
  generalize people.length = n2 at *
  have i1 : (0 : Int) ≤ (i : Int) := by omega
  have i2 : (i : Int) < (n1 : Int) := by omega
  have i3 : (0 : Int) ≤ (k : Int) := by omega
  have i4 : (k : Int) < (n2 : Int) := by omega
  clear r1 r2
  go_enter Try.func23, Try.ntmps23
  go_wp2
  go_quiet (fail)
  go_wp2
  go_ret
  exact ⟨ret_bool F.out.symm, below_drewN (Below.refl _ _) _⟩
/-- the table of all pairs, its first m places -/
def tabF (f : Nat → Nat → Bool) (p m : Nat) : List Bool := (List.range m).map fun j => f (j / p) (j % p)
theorem tabF_succ {f : Nat → Nat → Bool} {p i k : Nat} (hk : k < p) : tabF f p (i * p + k + 1) = tabF f p (i * p + k) ++ [f i k] := by
  have h1 : (i * p + k) / p = i := by rw [Nat.mul_comm, Nat.mul_add_div (by omega), Nat.div_eq_of_lt hk]; rfl
  have h2 : (i * p + k) % p = k := by rw [Nat.mul_comm, Nat.mul_add_mod, Nat.mod_eq_of_lt hk]
  simp [tabF, List.range_succ, h1, h2]
theorem tabF_at {f : Nat → Nat → Bool} {p i k rows : Nat} (hi : i < rows) (hk : k < p) : (tabF f p (rows * p))[i * p + k]? = some (f i k) := by
  have h1 : (i * p + k) / p = i := by rw [Nat.mul_comm, Nat.mul_add_div (by omega), Nat.div_eq_of_lt hk]; rfl
  have h2 : (i * p + k) % p = k := by rw [Nat.mul_comm, Nat.mul_add_mod, Nat.mod_eq_of_lt hk]
  have h3 : i * p + k < rows * p := by
    have : (i + 1) * p ≤ rows * p := Nat.mul_le_mul_right p hi
    rw [Nat.succ_mul] at this
    omega
  simp [tabF, h3, h1, h2]
/-- the column of each row (-1: none), and how many have one, behind k columns -/
def outM (of' : List Int) (rows : Nat) : Nat → List Int × Nat
  | 0 => (List.replicate rows (-1), 0)
  | k + 1 => if 0 ≤ of'.getD k 0 then ((outM of' rows k).1.set (of'.getD k 0).toNat k, (outM of' rows k).2 + 1) else outM of' rows k
theorem outM_len (of' : List Int) (rows k : Nat) : (outM of' rows k).1.length = rows := by
  induction k with
  | zero => simp [outM]
  | succ k ih => rw [outM]; split <;> simp [ih]
theorem outM_le (of' : List Int) (rows k : Nat) : (outM of' rows k).2 ≤ k := by
  induction k with
  | zero => simp [outM]
  | succ k ih =>
    rw [outM]; split
    · show (outM of' rows k).2 + 1 ≤ _; omega
    · omega
theorem outM_yes {of' : List Int} {rows k r : Nat} (h : of'.getD k 0 = (r : Int)) : outM of' rows (k + 1) = ((outM of' rows k).1.set r k, (outM of' rows k).2 + 1) := by
  rw [outM, h, if_pos (by omega), Int.toNat_natCast]
theorem outM_no {of' : List Int} {rows k : Nat} (h : of'.getD k 0 < 0) : outM of' rows (k + 1) = outM of' rows k := by
  rw [outM, if_neg (by omega)]
end Go.Proofs.Ytfeehfmiicleaaa
