/- What the arguments of a law are: a slice of slices of records. No program stands here. -/
import Derived.Test.YtldehffhpblliaaOpen2
namespace Go.Proofs.Ytldehffhpblliaa
open Go.ChangeShapes Go.WideShapes Go.ChangeAt Go.RowKit Go.Deep
set_option linter.unusedVariables false

section
variable {H : Type} {enc : TypeId × Value → H} {P : Program} {w : World} {spare : Nat → Bool} {held : Bool}
theorem arg_q4s {t e r i : TypeId} {fs : Array Field} {a : Option Addr} {len cap : Nat} {d : DataW H} {p : List MemPlace} (ht : P.underlying t = some (.slice e)) (he : P.underlying e = some (.slice r)) (hr : P.underlying r = some (.struct fs)) (hi : P.underlying i = some (.int .i64)) (h4 : fs.size = 4) (hf : intFields P fs i = true) (hc : P.cellsOf e = 1) (hc4 : P.cellsOf r = 4)
    (h : DataW.Trod enc P w 0 spare held t (.slice a len cap) d p) : ∃ xs : List (Value × List Q4), xs.length = len ∧ (∀ x ∈ xs, Sl w 4 x.1 x.2.length (q4s x.2)) ∧ Sl w 1 (.slice a len cap) xs.length (xs.map Prod.fst) := by
  refine arg_list1 (α := Value × List Q4) Prod.fst (fun x => Sl w 4 x.1 x.2.length (q4s x.2)) ht hc (fun n v y hy => ?_) h
  obtain ⟨dd, pp⟩ := y
  have hv : ∃ A l c, v = .slice A l c := by
    rcases open_slice he hy with ⟨hcs, _⟩ | ⟨x, l, c, m, n', D, Pl, hcs, _⟩
    · simp at hcs; exact ⟨_, _, _, hcs⟩
    · simp at hcs; exact ⟨_, _, _, hcs⟩
  obtain ⟨A, l, c, rfl⟩ := hv
  obtain ⟨xs, _, _, hs⟩ := arg_q4 (cap := c) (d := dd) (p := pp) he hr hi h4 hf hc4 ⟨n, hy⟩
  exact ⟨(_, xs), rfl, hs⟩
end
end Go.Proofs.Ytldehffhpblliaa
