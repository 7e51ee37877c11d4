/- What SlowRing answers, in plain lists. -/
import Derived.Test.YtclkgfcehmmgaaaProg
import Derived.Test.YtclkgfcehmmgaaaSlowR
import Derived.Test.YtclkgfcehmmgaaaRingP
namespace Go.Proofs.Ytclkgfcehmmgaaa
open Go.RowKit Plain
set_option linter.unusedVariables false
/-- where there is a period, SlowRing finds a ring -/
theorem MSl_ring {ev : Int} {l : List Q4} (h : (MPer ev l).2.2 = true) : ∃ (n s : Nat) (p : List Nat), ev = n ∧ 1 ≤ n ∧ n ≤ 12 ∧ 1 ≤ s ∧ s ≤ n ∧ ringF l (zP n l) s = some p ∧ p.length = s ∧ MSl ev l = (p.map (fun i : Nat => (i : Int)), true) := by
  obtain ⟨hok, hfx⟩ := MPer_parts h
  have hab : arcsB ev l = true := by
    simp only [okR, Bool.and_eq_true] at hok
    exact hok.1
  obtain ⟨n, rfl, n1, n2, n3, n4⟩ := arcs_parts hab
  rw [Int.toNat_natCast] at hfx
  obtain ⟨⟨sz, z1, z2, z3⟩, _, _, _⟩ := slow_found n1 n2 n4 hok hfx
  obtain ⟨s, s1, s2, s3, s4⟩ := least_per (p := fun s => ringF l (zP n l) s ≠ none) n ⟨sz, z1, z2, z3⟩
  cases hp : ringF l (zP n l) s with
  | none => exact absurd hp s3
  | some p =>
    obtain ⟨q, e, _, _, hl⟩ := ringF_path s1 hp
    exact ⟨n, s, p, rfl, n1, n2, s1, s2, hp, hl, MSl_yes h s1 s2 (fun j h1 h2 => Classical.not_not.1 (s4 j h1 h2)) hp⟩
theorem MSl_len (ev : Int) (l : List Q4) : (MSl ev l).1.length ≤ 12 := by
  cases h : (MPer ev l).2.2 with
  | false => rw [MSl_no h]; simp
  | true =>
    obtain ⟨n, s, p, rfl, _, n2, _, s2, _, hl, e⟩ := MSl_ring h
    rw [e]
    simp only [List.length_map]
    omega
end Go.Proofs.Ytclkgfcehmmgaaa
