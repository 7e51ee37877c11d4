/- More on floats of flows: comparisons, pairs, lists that are finite. -/
import Derived.Test.YtpnbjfhcnjdohaaFlows
import Derived.Test.YtpnbjfhcnjdohaaApp
namespace Go.Proofs.Ytpnbjfhcnjdohaa
open Go.RowKit Plain
set_option linter.unusedVariables false
set_option linter.unusedSimpArgs false
attribute [local go_sem ↓] Go.wp_at_zero Go.wp_at_succ

def gt0F (m : Option Nat) : Bool := match m with | none => false | some b => FloatKind.f32.format.order b 0 == some .gt
theorem order_gt0 {r : Nat} {m : Option Nat} (h : nrm .f32 r = m) : (FloatKind.f32.format.order r 0 == some .gt) = gt0F m := by
  subst h
  cases e : nrm .f32 r with
  | none => rw [order_nan (.inl (nrm_none e))]; rfl
  | some b => rw [(nrm_some e).1]; rfl
/-- one is at least the other -/
def ge2 (a b : Nat) : Bool := FloatKind.f32.format.order a b == some .gt || FloatKind.f32.format.order a b == some .eq
theorem ge2_t {a b : Nat} (h : ge2 a b = true) : FloatKind.f32.format.order a b = some .gt ∨ FloatKind.f32.format.order a b = some .eq := by
  simpa [ge2] using h
theorem ge2_f {a b : Nat} (h : ge2 a b = false) : FloatKind.f32.format.order a b = none ∨ FloatKind.f32.format.order a b = some .lt := by
  cases e : FloatKind.f32.format.order a b with
  | none => exact .inl rfl
  | some o => cases o <;> simp [ge2, e] at h ⊢
theorem geB_t {l : Nat} (h : geB l = true) : FloatKind.f32.format.order l 0 = some .gt ∨ FloatKind.f32.format.order l 0 = some .eq := ge2_t h
theorem geB_f {l : Nat} (h : geB l = false) : FloatKind.f32.format.order l 0 = none ∨ FloatKind.f32.format.order l 0 = some .lt := ge2_f h
theorem finB_none : finB none = false := rfl
theorem finB_some {m : Option Nat} (h : finB m = true) : ∃ b, m = some b := by
  cases m with
  | none => rw [finB_none] at h; cases h
  | some b => exact ⟨b, rfl⟩
theorem finB_num {a : Nat} (h : finB (nrm .f32 a) = true) : (FloatKind.f32.format.read a).isNaN = false := by
  obtain ⟨b, hb⟩ := finB_some h
  obtain ⟨rfl, hn⟩ := nrm_some hb
  exact hn
theorem order_some {a b : Nat} (ha : (FloatKind.f32.format.read a).isNaN = false) (hb : (FloatKind.f32.format.read b).isNaN = false) : FloatKind.f32.format.order a b ≠ none := by
  unfold Ieee.Format.order
  generalize FloatKind.f32.format.read a = x at *
  generalize FloatKind.f32.format.read b = y at *
  cases x <;> cases y <;> simp [Ieee.Datum.isNaN, Ieee.Datum.order] at *
theorem sl_pair (w : World) (T : TypeId) (x y : Value) : Sl (w.alloc (.cells #[x, y] T)) 1 (.slice (some ⟨w.heap.size, 0, none⟩) 2 2) 2 [x, y] := by
  refine ⟨_, 2, rfl, by omega, by simp, by unfold maxLen; omega, fun _ => ⟨_, 0, rfl, fun j u hu => ?_⟩⟩
  match j, hu with
  | 0, hu => simp at hu; subst hu; simp
  | 1, hu => simp at hu; subst hu; simp
/-- the bits of numbers that are known to be finite -/
theorem bits_of {rs : List Nat} {n : Nat} {f : Nat → Option Nat} (h : rs.map (nrm .f32) = (List.range n).map f) (hf : ∀ k, k < n → finB (f k) = true) : rs = (List.range n).map fun k => (f k).getD 0 := by
  have hl : rs.length = n := by have := congrArg List.length h; simpa using this
  apply List.ext_getElem?
  intro k
  by_cases hk : k < n
  · have := congrArg (fun l => l[k]?) h
    simp only [List.getElem?_map, List.getElem?_range hk, List.getElem?_eq_getElem (show k < rs.length by omega), Option.map_some, Option.some.injEq] at this
    obtain ⟨b, hb⟩ := finB_some (hf k hk)
    rw [hb] at this
    simp only [List.getElem?_map, List.getElem?_range hk, List.getElem?_eq_getElem (show k < rs.length by omega), Option.map_some, hb, Option.getD_some, (nrm_some this).1]
  · rw [List.getElem?_eq_none (by omega), List.getElem?_eq_none (by simp; omega)]
theorem any_nrm {rs : List Nat} {L : List (Option Nat)} (h : rs.map (nrm .f32) = L) : (!rs.any fun b => !finB (nrm .f32 b)) = L.all finB := by
  subst h
  induction rs with
  | nil => rfl
  | cons x rs ih => simp only [List.any_cons, List.map_cons, List.all_cons, ← ih, Bool.not_or, Bool.not_not]
theorem map_snoc {rs : List Nat} {r k : Nat} {f : Nat → Option Nat} (h : rs.map (nrm .f32) = (List.range k).map f) (hr : nrm .f32 r = f k) : (rs ++ [r]).map (nrm .f32) = (List.range (k + 1)).map f := by
  rw [List.map_append, h, List.range_succ, List.map_append, List.map_cons, List.map_nil, hr]; rfl

end Go.Proofs.Ytpnbjfhcnjdohaa
