/- Delays that spread along rules, in plain numbers. No program stands here. -/
import Derived.Test.YtnfgnlhpjhndfaaWords
import Derived.Test.YtnfgnlhpjhndfaaPlain
namespace Go.Proofs.Ytnfgnlhpjhndfaa.Plain

/-- event 'to' is late by what the first k rules bring -/
def inD (l : List Q4) (to : Nat) (out : List Int) : Nat → List Int
  | 0 => out
  | k + 1 => match l[k]? with
    | some q => if q.b = (to : Int) then (inD l to out k).set to (max ((inD l to out k).getD to 0) ((inD l to out k).getD q.a.toNat 0 - (q.d - q.c))) else inD l to out k
    | none => inD l to out k
def outD (l : List Q4) (late : List Int) : Nat → List Int
  | 0 => late
  | t + 1 => inD l t (outD l late t) l.length
theorem inD_yes {l : List Q4} {to : Nat} {out : List Int} {k : Nat} {q : Q4} (h : l[k]? = some q) (hb : q.b = (to : Int)) : inD l to out (k + 1) = (inD l to out k).set to (max ((inD l to out k).getD to 0) ((inD l to out k).getD q.a.toNat 0 - (q.d - q.c))) := by
  rw [inD, h]; simp only; rw [if_pos hb]
theorem inD_no {l : List Q4} {to : Nat} {out : List Int} {k : Nat} {q : Q4} (h : l[k]? = some q) (hb : ¬ q.b = (to : Int)) : inD l to out (k + 1) = inD l to out k := by
  rw [inD, h]; simp only; rw [if_neg hb]
theorem inD_len (l : List Q4) (to : Nat) (out : List Int) (k : Nat) : (inD l to out k).length = out.length := by
  induction k with
  | zero => rfl
  | succ k ih =>
    rw [inD]
    split
    · split
      · simpa using ih
      · exact ih
    · exact ih
theorem outD_len (l : List Q4) (late : List Int) (t : Nat) : (outD l late t).length = late.length := by
  induction t with
  | zero => rfl
  | succ t ih => rw [outD, inD_len, ih]
/-- all numbers lie from 0 to 1000 -/
def smallD (xs : List Int) : Prop := ∀ i, 0 ≤ xs.getD i 0 ∧ xs.getD i 0 ≤ 1000
theorem small_set {xs : List Int} (h : smallD xs) (i : Nat) {y : Int} (h0 : 0 ≤ y) (h1 : y ≤ 1000) : smallD (xs.set i y) := by
  intro j
  simp only [List.getD_eq_getElem?_getD, List.getElem?_set]
  by_cases e : i = j
  · rw [if_pos e]
    split
    · exact ⟨h0, h1⟩
    · simp
  · rw [if_neg e]
    have := h j
    simpa only [List.getD_eq_getElem?_getD] using this
theorem inD_small {l : List Q4} (hl : ∀ q ∈ l, q.c ≤ q.d) {to : Nat} {out : List Int} (h : smallD out) (k : Nat) : smallD (inD l to out k) := by
  induction k with
  | zero => exact h
  | succ k ih =>
    rw [inD]
    split
    · rename_i q hq
      split
      · have h1 := ih to
        have h2 := ih q.a.toNat
        have := hl q (List.mem_of_getElem? hq)
        exact small_set ih _ (by omega) (by omega)
      · exact ih
    · exact ih
theorem outD_small {l : List Q4} (hl : ∀ q ∈ l, q.c ≤ q.d) {late : List Int} (h : smallD late) (t : Nat) : smallD (outD l late t) := by
  induction t with
  | zero => exact h
  | succ t ih => exact inD_small hl ih _
end Go.Proofs.Ytnfgnlhpjhndfaa.Plain
