/- The gap of a ring of rules in plain numbers. No program stands here. -/
import Derived.Test.YtahhmpaaggeakaaWords
import Derived.Test.YtahhmpaaggeakaaPlain
namespace Go.Proofs.Ytahhmpaaggeakaa.Plain

/-- where link k of a ring begins and ends, and its least and most -/
def lkFrom (l : List Q4) (r : List Int) (al : List Bool) (k : Nat) : Int := match l[(r.getD k 0).toNat]? with | some q => if al.getD k false then q.a else q.b | none => 0
def lkTo (l : List Q4) (r : List Int) (al : List Bool) (k : Nat) : Int := match l[(r.getD k 0).toNat]? with | some q => if al.getD k false then q.b else q.a | none => 0
def lkLow (l : List Q4) (r : List Int) (al : List Bool) (k : Nat) : Int := match l[(r.getD k 0).toNat]? with | some q => if al.getD k false then q.c else - q.d | none => 0
def lkHigh (l : List Q4) (r : List Int) (al : List Bool) (k : Nat) : Int := match l[(r.getD k 0).toNat]? with | some q => if al.getD k false then q.d else - q.c | none => 0
/-- so far no rule comes twice, and each link begins where the one ahead ends -/
def chainB (l : List Q4) (r : List Int) (al : List Bool) : Nat → Bool
  | 0 => true
  | k + 1 => chainB l r al k && (!(r.take k).contains (r.getD k 0) && (k == 0 || lkFrom l r al k == lkTo l r al (k - 1)))
def lowS (l : List Q4) (r : List Int) (al : List Bool) : Nat → Int
  | 0 => 0
  | k + 1 => lowS l r al k + lkLow l r al k
def highS (l : List Q4) (r : List Int) (al : List Bool) : Nat → Int
  | 0 => 0
  | k + 1 => highS l r al k + lkHigh l r al k
/-- the least multiple that is no less, the greatest that is no more -/
def upM (n p : Int) : Int := n + (-n) % p
def downM (n p : Int) : Int := n - n % p
theorem chain_stop {l : List Q4} {r : List Int} {al : List Bool} {k n : Nat} (h : chainB l r al k = false) (hk : k ≤ n) : chainB l r al n = false := by
  induction n with
  | zero => have : k = 0 := by omega
            subst this; exact h
  | succ n ih =>
    by_cases e : k = n + 1
    · subst e; exact h
    · rw [chainB, ih (by omega)]; rfl
/-- the reference's way to the least multiple -/
theorem upM_neg {n p : Int} (hp : 0 < p) (h : n.tmod p < 0) : n - n.tmod p = upM n p := by
  have hn : n < 0 := by
    rcases Int.lt_or_le n 0 with h1 | h1
    · exact h1
    · have := Int.tmod_nonneg p h1; omega
  have e : (-n) % p = (-n).tmod p := (Int.tmod_eq_emod_of_nonneg (by omega)).symm
  rw [upM, e, Int.neg_tmod]
  omega
theorem upM_pos {n p : Int} (hp : 0 < p) (h : ¬ n.tmod p < 0) : n + (p - n.tmod p).tmod p = upM n p := by
  have h2 := Int.tmod_lt_of_pos n hp
  have h3 : (p - n.tmod p).tmod p = (p - n.tmod p) % p := Int.tmod_eq_emod_of_nonneg (by omega)
  rw [upM, h3]
  congr 1
  have e : n.tmod p = n - p * n.tdiv p := by have := Int.mul_tdiv_add_tmod n p; omega
  have : p - n.tmod p = -n + p * (n.tdiv p + 1) := by rw [e, Int.mul_add]; omega
  rw [this, Int.add_mul_emod_self_left]
theorem downM_ref {n p : Int} (hp : 0 < p) : n - (n.tmod p + p).tmod p = downM n p := by
  have h2 : -p < n.tmod p := by have := Int.lt_tmod_of_pos n hp; omega
  have h3 : (n.tmod p + p).tmod p = (n.tmod p + p) % p := Int.tmod_eq_emod_of_nonneg (by omega)
  have e : n.tmod p = n - p * n.tdiv p := by have := Int.mul_tdiv_add_tmod n p; omega
  rw [downM, h3]
  have : n.tmod p + p = n + p * (1 - n.tdiv p) := by rw [e, Int.mul_sub]; omega
  rw [this, Int.add_mul_emod_self_left]
end Go.Proofs.Ytahhmpaaggeakaa.Plain
