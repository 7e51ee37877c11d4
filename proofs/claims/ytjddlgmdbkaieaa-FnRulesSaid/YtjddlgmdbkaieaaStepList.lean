/- append of a whole list of int64 to an empty slice, as a step of a region that draws its order: a new row. -/
import Derived.Test.YtjddlgmdbkaieaaProg
import Derived.Test.YtjddlgmdbkaieaaSlice
import Derived.Test.YtjddlgmdbkaieaaApp
import Derived.Deep.RegionLaw
import Derived.Deep.RegionLawGrows
namespace Go.Proofs.Ytjddlgmdbkaieaa
open Go.RowKit Plain
set_option linter.unusedVariables false

theorem step_app_list {ops : Array Oper} {o : Oper} {a : Act} {w : World} {K : Act → World → Prop} {Q : Exit → Act → World → Prop} {E : Prop} (hgd : o.guard = none) (s x : Operand)
    (ho : o.op = .call { callee := .builtin .append, args := #[s, x], argTypes := #[27, 27] }) (g : Nat) (hs : a.eval s = .slice (some ⟨g, 0, none⟩) 0 0)
    (b off m capx : Nat) (vs : List Int) (hx : a.eval x = .slice (some ⟨b, off, none⟩) m capx) (hr : Rd w 1 (some ⟨b, off, none⟩) m (vs.map vi)) (hm : 1 ≤ m) (hm2 : m ≤ 1048576)
    (h : ∀ v' w', w'.ownsRow w.heap.size 2 1 v' m (vs.map vi) → Below w.heap.size w w' → K (a.put o.dst v') w') :
    if Region.wanted o (yielded ops a.tmps) = true then Oper.wp Try.prog o a w K Q else E := by
  obtain ⟨i0, hi, hz0, hz1, hz2⟩ := info_parts info_int
  have hl : (vs.map vi).length = m := by have := hr.1; omega
  refine step_append_grows hgd s x 27 ho 2 i0 (.int .i64 0) 1 8 Try.underlying27 hi hz0 hz1 hz2 rfl (by decide) (some ⟨g, 0, none⟩) 0 0 [] hs (fun e => by cases e) rfl (fun b hb j v hv => by simp at hv) ⟨b, off, none⟩ m capx (vs.map vi) hx (by rw [hl]; omega) (fun j v hv => ?_) (fun z hz => ?_) (by omega) (by unfold maxLen; omega) (by omega) ?_
  · obtain ⟨b', off', e, hc⟩ := hr.2.2 (by omega)
    cases e
    have := hc j v hv
    have ha : (⟨b, off, none⟩ : Addr).add j = ⟨b, off + j, none⟩ := by unfold Addr.add; split <;> simp_all
    rw [ha]; exact this
  · obtain ⟨y, _, rfl⟩ := List.mem_map.1 hz
    rfl
  · intro v' w' k1 k2
    exact h v' w' (by simpa [hl] using k1) (below_none k2)
theorem wpList_app_list {ops : Array Oper} {rest : List Oper} {o : Oper} {a : Act} {Q : Exit → Act → World → Prop} (w : World) (hgd : o.guard = none) (s x : Operand)
    (ho : o.op = .call { callee := .builtin .append, args := #[s, x], argTypes := #[27, 27] }) (g : Nat) (hs : a.eval s = .slice (some ⟨g, 0, none⟩) 0 0)
    (b off m capx : Nat) (vs : List Int) (hx : a.eval x = .slice (some ⟨b, off, none⟩) m capx) (hr : Rd w 1 (some ⟨b, off, none⟩) m (vs.map vi)) (hm : 1 ≤ m) (hm2 : m ≤ 1048576)
    (h : ∀ v' w', w'.ownsRow w.heap.size 2 1 v' m (vs.map vi) → Below w.heap.size w w' → wpList Try.prog ops Q rest (a.put o.dst v') w') :
    wpList Try.prog ops Q (o :: rest) a w := by
  obtain ⟨i0, hi, hz0, hz1, hz2⟩ := info_parts info_int
  have hl : (vs.map vi).length = m := by have := hr.1; omega
  refine wpList_append_grows w hgd s x 27 ho 2 i0 (.int .i64 0) 1 8 Try.underlying27 hi hz0 hz1 hz2 rfl (by decide) (some ⟨g, 0, none⟩) 0 0 [] hs (fun e => by cases e) rfl (fun b hb j v hv => by simp at hv) ⟨b, off, none⟩ m capx (vs.map vi) hx (by rw [hl]; omega) (fun j v hv => ?_) (fun z hz => ?_) (by omega) (by unfold maxLen; omega) (by omega) ?_
  · obtain ⟨b', off', e, hc⟩ := hr.2.2 (by omega)
    cases e
    have := hc j v hv
    have ha : (⟨b, off, none⟩ : Addr).add j = ⟨b, off + j, none⟩ := by unfold Addr.add; split <;> simp_all
    rw [ha]; exact this
  · obtain ⟨y, _, rfl⟩ := List.mem_map.1 hz
    rfl
  · intro v' w' k1 k2
    exact h v' w' (by simpa [hl] using k1) (below_none k2)
end Go.Proofs.Ytjddlgmdbkaieaa
