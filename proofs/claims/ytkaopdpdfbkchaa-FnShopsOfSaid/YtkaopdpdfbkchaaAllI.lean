/- A row is told to be an order of all (turned from JobB). -/
import Derived.Test.YtkaopdpdfbkchaaShpA
import Derived.Test.YtkaopdpdfbkchaaApp
import Derived.Test.YtkaopdpdfbkchaaStoreOwn
namespace Go.Proofs.Ytkaopdpdfbkchaa
open Go.RowKit Plain
set_option linter.unusedVariables false
set_option linter.unusedSimpArgs false
attribute [local go_sem ↓] Go.wp_at_zero Go.wp_at_succ
/-- each number below n, once -/
structure AllD (d : Nat → Nat) (n : Nat) : Prop where
  lt : ∀ k, k < n → d k < n
  inj : ∀ a b, a < n → b < n → d a = d b → a = b
set_option maxHeartbeats 1000000 in
theorem isAll_fa (bx o cx : Nat) (d : Nat → Nat) (n : Nat) (w : World) (h : FA w bx o cx n (natF d)) (hp : AllD d n) (n1 : 1 ≤ n) (n24 : n ≤ 24) :
    Calls Try.prog 33 #[.slice (some ⟨bx, o, none⟩) n cx] w fun r w' => r = .returned (.bool true) ∧ Below w.heap.size w w' := by
  have HO := hd hp
  have HR := hd h
  have hcap := h.nc
  clear h hp
  go_enter Try.func33, Try.ntmps33
  go_wp2_with (at_make; go_must (refine wpList_make_bool _ rfl _ rfl _ _ n rfl rfl (by omega) ?_); intro w2 ho2 hb2)
  have HO2 := hd (show w2.ownsRow w.heap.size 4 1 (.slice (some ⟨w.heap.size, 0, none⟩) n n) n ((List.replicate n false).map (fun b => Value.bool b)) by rw [List.map_replicate]; exact ho2)
  have HB2 := hd hb2
  clear ho2 hb2
  go_loopw [11] (fun iv wr => ∃ (k : Nat) (sb : List Bool), k ≤ n ∧ iv = .int .i64 k ∧ Hid (∀ j, sb.getD j false = true → ∃ m, m < k ∧ d m = j) ∧ Hid (wr.ownsRow w.heap.size 4 1 (.slice (some ⟨w.heap.size, 0, none⟩) n n) n (sb.map (fun b => Value.bool b))) ∧ Hid (Below w.heap.size w wr)) (fun iv _ => n - (intOf iv).toNat)
  case atStart =>
    refine ⟨0, List.replicate n false, by omega, rfl, hd (fun j hj => ?_), HO2, HB2⟩
    rw [List.getD_eq_getElem?_getD, List.getElem?_replicate] at hj
    split at hj <;> simp at hj
  case round =>
    clear HO2 HB2
    obtain ⟨k, sb, hk, rfl, HS, HW, HB⟩ := hrel
    by_cases hlt : k < n
    · have hc := (HR.out.below HB.out).cl k hlt
      unfold natF at hc
      have hx := HO.out.lt k hlt
      have hsl : sb.length = n := by have := HW.out.1; simpa using this
      have hsf : sb.getD (d k) false = false := by
        cases e : sb.getD (d k) false with
        | false => rfl
        | true =>
          obtain ⟨m, hm, em⟩ := HS.out _ e
          have := HO.out.inj m k (by omega) hlt em
          omega
      have cs : wr.cell? ⟨w.heap.size, d k, none⟩ = some (.bool false) := by
        rw [HW.out.cellAt (d k) (by omega), List.getElem?_map, List.getElem?_eq_getElem (by omega), Option.map_some]
        rw [List.getD_eq_getElem?_getD, List.getElem?_eq_getElem (by omega)] at hsf
        simp only [Option.getD_some] at hsf
        rw [hsf]
      have HS2 := hd (show ∀ j, (sb.set (d k) true).getD j false = true → ∃ m, m < k + 1 ∧ d m = j from fun j hj => by
        rw [List.getD_eq_getElem?_getD, List.getElem?_set] at hj
        by_cases e : d k = j
        · exact ⟨k, by omega, e⟩
        · rw [if_neg e, ← List.getD_eq_getElem?_getD] at hj
          obtain ⟨m, hm, em⟩ := HS.out j hj
          exact ⟨m, by omega, em⟩)
      have HM := hd (show (sb.map (fun b => Value.bool b)).set (d k) (.bool true) = (sb.set (d k) true).map (fun b => Value.bool b) by rw [List.map_set])
      clear HS hsf hsl
      generalize d k = x at *
      have g1 : inR (x : Int) 0 ((n : Int) - 1) = true := inR_iff.2 ⟨by omega, by omega⟩
      have hw1 : IntKind.i64.wrap ((n : Int) - 1) = (n : Int) - 1 := IntWalk.i64_in _ (by omega)
      have hx2 : (x : Int) < (n : Int) := Int.ofNat_lt.2 hx
      go_wp2_with (first
        | (go_at_call 39; refine (within_t _ _ _ _ g1).mono ?_; rintro e w' ⟨rfl, hw⟩; subst hw)
        | ((with_reducible refine wpList_store_own _ w.heap.size 4 1 n n w.heap.size _ HW.out size_bool x (.bool true) ?_ ?_ ?_ ?_ ?_); exact rfl; exact rfl; exact rfl; omega; intro w6 ho7 hg7))
      have HO7 := hd (show w6.ownsRow w.heap.size 4 1 (.slice (some ⟨w.heap.size, 0, none⟩) n n) n ((sb.set x true).map (fun b => Value.bool b)) by rw [← HM.out]; exact ho7)
      have HB7 := hd (below_row hg7 HB.out (fun k e => by cases e; exact Nat.le_refl _))
      clear ho7 hg7
      go_roundw
      case rel => exact ⟨k + 1, sb.set x true, by omega, by go_num, HS2, HO7, HB7⟩
      case measure => simp [intOf]; omega
    · go_wp2
      go_ret
      exact ⟨rfl, HB.out⟩
end Go.Proofs.Ytkaopdpdfbkchaa
