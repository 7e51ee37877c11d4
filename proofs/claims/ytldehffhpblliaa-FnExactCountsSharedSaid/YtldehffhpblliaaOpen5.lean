/- What the arguments of a law are: a slice of rules of shifts. No program stands here. -/
import Derived.Test.YtldehffhpblliaaOpen
import Derived.Test.YtldehffhpblliaaWords5
namespace Go.Proofs.Ytldehffhpblliaa
open Go.ChangeShapes Go.WideShapes Go.ChangeAt Go.RowKit Go.Deep
set_option linter.unusedVariables false

section
variable {H : Type} {enc : TypeId × Value → H} {P : Program} {w : World} {spare : Nat → Bool} {held : Bool}
theorem arg_s5 {t e i : TypeId} {fs : Array Field} {a : Option Addr} {len cap : Nat} {d : DataW H} {p : List MemPlace} (ht : P.underlying t = some (.slice e)) (he : P.underlying e = some (.struct fs)) (hi : P.underlying i = some (.int .i64)) (h4 : fs.size = 5) (hf : intFields P fs i = true) (hc : P.cellsOf e = 5)
    (h : DataW.Trod enc P w 0 spare held t (.slice a len cap) d p) : ∃ xs : List SR, xs.length = len ∧ (∀ x ∈ xs, x.I64) ∧ Sl w 5 (.slice a len cap) xs.length (s5s xs) := by
  obtain ⟨fuel, hq⟩ := h
  rcases open_slice ht hq with ⟨hcs, _⟩ | ⟨x, l, c, m, n, D, Pl, hcs, _, hl, hm, hmm, _, hel⟩
  · simp [Value.cells] at hcs
    obtain ⟨rfl, rfl, rfl⟩ := hcs
    exact ⟨[], rfl, by simp, none, 0, rfl, by simp, ⟨by simp [s5s], by simp, by simp⟩⟩
  · simp [Value.cells] at hcs
    obtain ⟨rfl, rfl, rfl⟩ := hcs
    rw [hc] at hel
    have hlm : len ≤ m := by rw [hmm]; split <;> omega
    have hq4 : ∀ k, k < len → ∃ q : SR, q.I64 ∧ ∀ j u, q.cells[j]? = some u → w.cell? ((x.add (k * 5)).add j) = some u := by
      intro k hk
      obtain ⟨cs', hcc, htr⟩ := hel k (by omega)
      obtain ⟨_, hlen, hat⟩ := World.cells?_some hcc
      have hk4 := fun j (hj : j < 5) => int_field he hi hf htr j (by omega)
      obtain ⟨a0, e0, w0⟩ := hk4 0 (by omega)
      obtain ⟨a1, e1, w1⟩ := hk4 1 (by omega)
      obtain ⟨a2, e2, w2⟩ := hk4 2 (by omega)
      obtain ⟨a3, e3, w3⟩ := hk4 3 (by omega)
      obtain ⟨a4, e4, w4⟩ := hk4 4 (by omega)
      refine ⟨⟨a0, a1, a2, a3, a4⟩, ⟨w0, w1, w2, w3, w4⟩, fun j u hu => ?_⟩
      have hj : j < 5 := by
        have := (List.getElem?_eq_some_iff.1 hu).1
        simpa [SR.cells] using this
      rw [hat j hj]
      match j, hj with
      | 0, _ => rw [e0]; simpa [SR.cells, vi] using hu
      | 1, _ => rw [e1]; simpa [SR.cells, vi] using hu
      | 2, _ => rw [e2]; simpa [SR.cells, vi] using hu
      | 3, _ => rw [e3]; simpa [SR.cells, vi] using hu
      | 4, _ => rw [e4]; simpa [SR.cells, vi] using hu
    let f : Nat → SR := fun k => if hk : k < len then (hq4 k hk).choose else ⟨0, 0, 0, 0, 0⟩
    have hf0 : ∀ k, k < len → (f k).I64 ∧ ∀ j u, (f k).cells[j]? = some u → w.cell? ((x.add (k * 5)).add j) = some u := by
      intro k hk
      have := (hq4 k hk).choose_spec
      simpa [f, hk] using this
    refine ⟨(List.range len).map f, by simp, ?_, some x, cap, by simp, by simp; omega, by rw [s5s_len], by simp; omega, fun hn => ?_⟩
    · intro y hy
      obtain ⟨k, hk, rfl⟩ := List.mem_map.1 hy
      exact (hf0 k (List.mem_range.1 hk)).1
    · have hn0 : 0 < len := by simpa using hn
      have hsp : x.spot = none := by
        have := World.cell?_spot ((hf0 0 hn0).2 0 _ rfl)
        simpa [Addr.add] using this
      refine ⟨x.block, x.off, by obtain ⟨b, o, s⟩ := x; simp_all, fun j u hu => ?_⟩
      have hj : j < len * 5 := by
        have := (List.getElem?_eq_some_iff.1 hu).1
        rw [s5s_len] at this
        simpa using this
      have hk : j / 5 < len := by omega
      have hu' := s5s_get (l := (List.range len).map f) (k := j / 5) (by simpa using hk) (j % 5) (by omega)
      rw [show j / 5 * 5 + j % 5 = j by omega, hu] at hu'
      have := (hf0 (j / 5) hk).2 (j % 5) u (by rw [hu']; simp)
      rw [add_spot hsp, add_spot rfl] at this
      simpa [Nat.add_assoc, show j / 5 * 5 + j % 5 = j by omega] using this
end
end Go.Proofs.Ytldehffhpblliaa
