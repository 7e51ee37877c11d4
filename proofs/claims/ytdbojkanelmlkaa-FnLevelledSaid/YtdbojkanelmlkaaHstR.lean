/- The reference's search for the cheapest haste: plain facts and the measure. -/
import Derived.Test.YtdbojkanelmlkaaHstH
namespace Go.Proofs.Ytdbojkanelmlkaa.Plain
set_option linter.unusedVariables false
set_option linter.unusedSimpArgs false
/-- the number that digits tell -/
def numR : List Nat → List Nat → Nat
  | l :: ls, d :: ds => d + (l + 1) * numR ls ds
  | _, _ => 0
theorem numR_digs : ∀ (ls : List Nat) (t : Nat), t < prodR ls → numR ls (digsR ls t) = t
  | [], t, h => by simp only [prodR] at h; rw [digsR, numR]; omega; simp
  | l :: ls, t, h => by
    rw [digsR, numR, numR_digs ls _ (Nat.div_lt_of_lt_mul (by rw [prodR] at h; exact h))]
    exact Nat.mod_add_div _ _
end Go.Proofs.Ytdbojkanelmlkaa.Plain
namespace Go.Proofs.Ytdbojkanelmlkaa
open Go.RowKit Plain
set_option linter.unusedVariables false
set_option linter.unusedSimpArgs false
attribute [local go_sem ↓] Go.wp_at_zero Go.wp_at_succ
/-- the number that a row of cuts tells -/
def numH (ls : List Nat) (g n : Nat) (w : World) : Nat := numR ls ((List.range n).map fun m => (intOf ((w.cell? ⟨g, n - 1 - m, none⟩).getD undef)).toNat)
theorem numH_cut {w : World} {base e g n t : Nat} {ts : List TK} {most : List Int} (ht : t < prodR (limR ts most n)) (h : w.ownsRow base e 1 (.slice (some ⟨g, 0, none⟩) n n) n ((fnL n fun i => (cutN ts most n t i : Int)).map vi)) : numH (limR ts most n) g n w = t := by
  have hd' : (digsR (limR ts most n) t).length = n := by rw [digsR_len, limR_len]
  have e1 : ((List.range n).map fun m => (intOf ((w.cell? ⟨g, n - 1 - m, none⟩).getD undef)).toNat) = digsR (limR ts most n) t := by
    refine List.ext_getElem? fun m => ?_
    by_cases hm : m < n
    · rw [List.getElem?_map, List.getElem?_range hm, Option.map_some, h.cellAt (n - 1 - m) (by omega), List.getElem?_map, fnL, List.getElem?_map, List.getElem?_range (by omega)]
      simp only [Option.map_some, Option.getD_some, vi, intOf, Int.toNat_natCast]
      rw [cutN, show n - 1 - (n - 1 - m) = m by omega, List.getD_eq_getElem?_getD, List.getElem?_eq_getElem (by omega), Option.getD_some]
    · rw [List.getElem?_eq_none (by simpa using Nat.le_of_not_lt hm), List.getElem?_eq_none (by omega)]
  rw [numH, e1, numR_digs _ _ ht]
def isT : Value → Bool
  | .bool b => b
  | _ => false
/-- the best so far, as the reference holds it -/
def SBest (B1 : Nat) (w : World) (ts : List TK) (most costs : List Int) (n : Nat) (r : Option Nat) (V : Value) (l : Int) : Prop :=
  match r with
  | none => l = -1
  | some t => l = hCo ts most costs n t n ∧ ∃ g cg, V = .slice (some ⟨g, 0, none⟩) n cg ∧ w.ownsRow B1 2 1 V n ((fnL n fun i => (cutN ts most n t i : Int)).map vi)
theorem SBest.below {B1 : Nat} {w w' : World} {ts : List TK} {most costs : List Int} {n : Nat} {r : Option Nat} {V : Value} {l : Int} (h : SBest B1 w ts most costs n r V l) (hb : Below w.heap.size w w') : SBest B1 w' ts most costs n r V l := by
  cases r with
  | none => exact h
  | some t =>
    obtain ⟨h1, g, cg, h2, h3⟩ := h
    exact ⟨h1, g, cg, h2, own_below h3 hb⟩
theorem SBest.grown {B1 : Nat} {w w' : World} {ts : List TK} {most costs : List Int} {n : Nat} {r : Option Nat} {V : Value} {l : Int} {g : Nat} (h : SBest B1 w ts most costs n r V l) (hg : w.grownBy w' (some g)) (hlt : g < B1) : SBest B1 w' ts most costs n r V l := by
  cases r with
  | none => exact h
  | some t =>
    obtain ⟨h1, g', cg, h2, h3⟩ := h
    refine ⟨h1, g', cg, h2, h3.kept hg (.inr fun e => ?_)⟩
    have := own_row h3 (Nat.le_refl _) g e
    omega
/-- the first vectors that are all the same: the row is told by the vectors -/
theorem fnL_cut (n : Nat) {u v : Nat → Int} (h : ∀ i, i < n → u i = v i) : (fnL n u).map vi = (fnL n v).map vi := by rw [fnL_same h]
end Go.Proofs.Ytdbojkanelmlkaa
