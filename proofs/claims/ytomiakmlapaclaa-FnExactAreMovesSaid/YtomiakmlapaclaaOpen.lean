/- What the arguments of a law are, read off the form's own reading of them. No program stands here. -/
import Derived.Test.YtomiakmlapaclaaBase
import Derived.ProofKit
import Derived.OpenShut
import Derived.ShutString
import Derived.ChangeOld
import Derived.Deep.Slices
import Derived.Laws.Cover2
namespace Go.Proofs.Ytomiakmlapaclaa
open Go.ChangeShapes Go.WideShapes Go.ChangeAt Go.RowKit Go.Deep

/-- in the range of an int64 -/
def I64 (n : Int) : Prop := -9223372036854775808 ≤ n ∧ n ≤ 9223372036854775807
theorem i64_of_wf {n : Int} (h : (Lit.int .i64 n).wf = true) : I64 n := by
  simp only [Lit.wf, IntKind.min, IntKind.max, IntKind.signed, IntKind.bits, Bool.and_eq_true, decide_eq_true_eq, if_true] at h
  exact ⟨by omega, by omega⟩

theorem add_spot {a : Addr} (h : a.spot = none) (j : Nat) : a.add j = ⟨a.block, a.off + j, none⟩ := by
  obtain ⟨b, o, s⟩ := a
  simp only at h
  subst h
  unfold Addr.add
  by_cases hj : j = 0 <;> simp [hj]
theorem spot_add {a : Addr} (h : (a.add 0).spot = none) : a.spot = none := by
  simpa [Addr.add] using h

section
variable {H : Type} {enc : TypeId × Value → H} {P : Program} {w : World} {spare : Nat → Bool} {held : Bool}
theorem arg_ints {t e : TypeId} {a : Option Addr} {len cap : Nat} {d : DataW H} {p : List MemPlace} (ht : P.underlying t = some (.slice e)) (he : P.underlying e = some (.int .i64)) (hc : P.cellsOf e = 1)
    (h : DataW.Trod enc P w 0 spare held t (.slice a len cap) d p) : ∃ xs : List Int, xs.length = len ∧ (∀ x ∈ xs, I64 x) ∧ Sl w 1 (.slice a len cap) xs.length (xs.map vi) := by
  obtain ⟨fuel, hf⟩ := h
  rcases open_ints ht he hc hf with ⟨hcs, _⟩ | ⟨x, l, c, zs, hcs, _, hl, hm, hz, _, hcell, hwz⟩
  · simp [Value.cells] at hcs
    obtain ⟨rfl, rfl, rfl⟩ := hcs
    exact ⟨[], rfl, by simp, none, 0, rfl, by simp, ⟨by simp, by simp, by simp⟩⟩
  · simp [Value.cells] at hcs
    obtain ⟨rfl, rfl, rfl⟩ := hcs
    have hlz : len ≤ zs.length := by rw [hz]; split <;> omega
    refine ⟨zs.take len, by simp; omega, fun y hy => i64_of_wf (hwz y (List.mem_of_mem_take hy)), some x, cap, by simp; omega, by simp; omega, by simp, by simp; omega, fun hn => ?_⟩
    have hsp : x.spot = none := spot_add (World.cell?_spot (hcell 0 (by simp at hn; omega)))
    refine ⟨x.block, x.off, by obtain ⟨b, o, s⟩ := x; simp_all, fun j u hu => ?_⟩
    rw [← add_spot hsp]
    simp only [List.map_take, List.getElem?_take] at hu
    split at hu
    · rw [hcell j (by omega)]
      simp at hu
      obtain ⟨y, hy, rfl⟩ := hu
      simp [vi, List.getD_eq_getElem?_getD, hy]
    · cases hu
end
end Go.Proofs.Ytomiakmlapaclaa
