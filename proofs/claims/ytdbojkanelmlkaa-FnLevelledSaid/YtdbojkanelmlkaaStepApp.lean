/- append of one int64 to a row of the call's own, as a step of a region that draws its order: the row's old cells stay. -/
import Derived.Test.YtdbojkanelmlkaaProg
import Derived.Test.YtdbojkanelmlkaaSlice
import Derived.Test.YtdbojkanelmlkaaApp
import Derived.Deep.RegionLaw
import Derived.Deep.RegionLawGrows
namespace Go.Proofs.Ytdbojkanelmlkaa
open Go.RowKit Plain
set_option linter.unusedVariables false

theorem step_app_int {ops : Array Oper} {o : Oper} {a : Act} {w : World} {K : Act → World → Prop} {Q : Exit → Act → World → Prop} {E : Prop} (hgd : o.guard = none) (s x : Operand)
    (ho : o.op = .call { callee := .builtin .append, args := #[s, x], argTypes := #[27, 27] }) (base g n cap : Nat) (xs : List Value) (hs : a.eval s = .slice (some ⟨g, 0, none⟩) n cap) (hown : w.ownsRow base 2 1 (.slice (some ⟨g, 0, none⟩) n cap) n xs)
    (q : Nat) (u : Value) (hx : a.eval x = .slice (some ⟨q, 0, none⟩) 1 1) (hc : w.cell? ⟨q, 0, none⟩ = some u) (h1 : u.oneCell' = true) (hn : n ≤ 1048576) (hbase : base ≤ w.heap.size)
    (h : ∀ v' w', w'.ownsRow base 2 1 v' (n + 1) (xs ++ [u]) → w.grownBy w' (some g) → (∀ j z, j < n → w.cell? ⟨g, j, none⟩ = some z → w'.cell? ⟨g, j, none⟩ = some z) → K (a.put o.dst v') w') :
    if Region.wanted o (yielded ops a.tmps) = true then Oper.wp Try.prog o a w K Q else E := by
  obtain ⟨i0, hi, hz0, hz1, hz2⟩ := info_parts infoI64
  have hnews : ∀ j v, [u][j]? = some v → w.cell? ((⟨q, 0, none⟩ : Addr).add j) = some v := by
    intro j v hv
    have hj : j = 0 := by
      have := (List.getElem?_eq_some_iff.1 hv).1
      simpa using this
    subst hj
    simp at hv
    subst hv
    simpa [Addr.add] using hc
  have hl : xs.length = n * 1 := hown.1
  by_cases hfull : cap < n + 1
  · refine step_append_grows hgd s x 27 ho 2 i0 (.int .i64 0) 1 8 Try.underlying27 hi hz0 hz1 hz2 rfl (by decide) (some ⟨g, 0, none⟩) n cap xs hs (fun e => by cases e) hl (fun b hb j v hv => ?_) ⟨q, 0, none⟩ 1 1 [u] hx rfl hnews (one_cellB h1) hfull (by unfold maxLen; omega) (by omega) ?_
    · cases hb
      have hj : j < n := by have := (List.getElem?_eq_some_iff.1 hv).1; omega
      have := hown.cellAt j (by omega)
      rw [hv] at this
      have ha : (⟨g, 0, none⟩ : Addr).add j = ⟨g, j, none⟩ := by unfold Addr.add; split <;> simp_all
      rw [ha]; exact this
    · intro v' w' k1 k2
      exact h v' w' (own_mono k1 hbase) (below_all (below_none k2) _) (fun j z _ hz => below_at (below_none k2) hz)
  · rcases hown.2 with ⟨h', _⟩ | ⟨g', cap', cur, h', hb, hg, hnc, hcm, hcs, htake⟩
    · cases h'
    · simp only [Value.slice.injEq, Option.some.injEq, Addr.mk.injEq, and_true, true_and] at h'
      obtain ⟨rfl, rfl⟩ := h'
      have hsz : n < cur.size := by omega
      have hcell : w.cell? ⟨g, n, none⟩ = some cur[n] := by rw [cell_of_row w g n cur _ _ hg]; exact Array.getElem?_eq_getElem hsz
      refine step_append_room hgd s x 27 ho 2 i0 1 Try.underlying27 hi hz1 g 0 n cap hs ⟨q, 0, none⟩ 1 1 [u] hx rfl hnews (one_cellB h1) (by omega) (fun j hj => ?_) ?_
      · have hj : j = 0 := by simpa using hj
        subst hj
        simp only [Nat.zero_add, Nat.mul_one, Nat.add_zero]
        exact ⟨by rw [hcell]; rfl, frozen_of_row w g n cur _ hg⟩
      · have he : w.setCells g (0 + n * 1) [u] = w.setCell ⟨g, n, none⟩ u := by simp [World.setCells]
        rw [he]
        refine h _ _ ⟨by simp; omega, .inr ⟨g, cap, cur.setIfInBounds n u, rfl, hb, heap_setCell_same w g n cur _ u hg, by omega, hcm, by simpa using hcs, ?_⟩⟩ ⟨rfl, rfl, rfl, by simp, fun k _ hk => heap_setCell_other w ⟨g, n, none⟩ k u (fun e => hk (by simp [e]))⟩ (fun j z hj hz => ?_)
        · rw [Array.toList_setIfInBounds, Nat.mul_one, List.take_set, List.take_add_one]
          rw [Nat.mul_one] at htake
          rw [htake]
          have hx2 : cur.toList[n]? = some cur[n] := by simp [hsz]
          rw [hx2]
          simp only [Option.toList]
          rw [List.set_append_right _ _ (by omega), show n - xs.length = 0 by omega]
          rfl
        · rw [cell_of_row _ g j _ _ _ (heap_setCell_same w g n cur _ u hg)]
          rw [cell_of_row w g j cur _ _ hg] at hz
          rw [Array.getElem?_setIfInBounds, if_neg (by omega)]
          exact hz
end Go.Proofs.Ytdbojkanelmlkaa
