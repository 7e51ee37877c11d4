/- Starts and ends of trips. No walk stands here. -/
import Derived.Test.YtdkmloomlnljlaaProg
import Derived.Test.YtdkmloomlnljlaaTable
namespace Go.Proofs.Ytdkmloomlnljlaa
open Go.RowKit Plain
set_option linter.unusedVariables false
set_option linter.unusedSimpArgs false
def fitV (l : List Q4) (ms : List Int) (i k : Nat) : Bool := cellF l ms (i * l.length + k)
def stV (l : List Q4) (x : Nat) : Nat := match l[x]? with
  | some a => a.a.toNat
  | none => 0
theorem stV_le {l : List Q4} (h : tripsB l = true) (x : Nat) : stV l x ≤ 10000 := by
  unfold stV
  cases e : l[x]? with
  | none => simp
  | some a =>
    obtain ⟨a, b, c, d⟩ := a
    obtain ⟨_, _, _, _, _, _, _, h1, _⟩ := trips_q h e
    show a.toNat ≤ 10000
    omega
def sS (l : List Q4) (x : Nat) : Int := stV l x
def eE (l : List Q4) (x : Nat) : Int := match l[x]? with | some a => a.b | none => 1
theorem trip_at {l : List Q4} (h : tripsB l = true) {x : Nat} (hx : x < l.length) : ∃ a b c d : Int, l[x]? = some ⟨a, b, c, d⟩ ∧ sS l x = a ∧ eE l x = b ∧ 0 ≤ a ∧ a ≤ 10000 ∧ a < b := by
  obtain ⟨a, b, c, d, ea⟩ : ∃ a b c d, l[x]? = some ⟨a, b, c, d⟩ := ⟨l[x].a, l[x].b, l[x].c, l[x].d, List.getElem?_eq_getElem hx⟩
  have hab : a + 1 ≤ b ∧ 0 ≤ a ∧ a ≤ 10000 := by
    rw [tripsB, Bool.and_eq_true, List.all_eq_true] at h
    have := tripB_iff.1 (h.1 _ (List.mem_of_getElem? ea))
    simp only at this
    omega
  refine ⟨a, b, c, d, ea, ?_, ?_, by omega, by omega, by omega⟩
  · rw [sS, stV, ea]; show ((a.toNat : Nat) : Int) = a; omega
  · rw [eE, ea]
theorem trip_se {l : List Q4} (h : tripsB l = true) (x : Nat) (hx : x < l.length) : sS l x < eE l x := by
  obtain ⟨a, b, c, d, _, h1, h2, _, _, h3⟩ := trip_at h hx
  omega
end Go.Proofs.Ytdkmloomlnljlaa
