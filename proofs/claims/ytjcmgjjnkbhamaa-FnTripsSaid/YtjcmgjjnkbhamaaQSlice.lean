/- The laws' helpers on slices of records of four int64. -/
import Derived.Test.YtjcmgjjnkbhamaaSlice
import Derived.Test.YtjcmgjjnkbhamaaWords
import Derived.Test.YtjcmgjjnkbhamaaStoreOwn
namespace Go.Proofs.Ytjcmgjjnkbhamaa
open Go.RowKit Plain
set_option linter.unusedVariables false
set_option linter.unusedSimpArgs false
attribute [local go_sem ↓] Go.wp_at_zero Go.wp_at_succ

theorem keep44 {B1 B2 o1 o2 p1 p2 : Nat} {v0 v1 v2 v3 u0 u1 u2 u3 : Value} {W w w' : World} {o2' o3' p2' p3' : Nat} (h : Below w.heap.size w w')
    (hH : (w.cell? ⟨B1, o1, none⟩ = some v0 ∧ w.cell? ⟨B1, o2, none⟩ = some v1 ∧ w.cell? ⟨B1, o2', none⟩ = some v2 ∧ w.cell? ⟨B1, o3', none⟩ = some v3) ∧ (w.cell? ⟨B2, p1, none⟩ = some u0 ∧ w.cell? ⟨B2, p2, none⟩ = some u1 ∧ w.cell? ⟨B2, p2', none⟩ = some u2 ∧ w.cell? ⟨B2, p3', none⟩ = some u3) ∧ Below W.heap.size W w) :
    (w'.cell? ⟨B1, o1, none⟩ = some v0 ∧ w'.cell? ⟨B1, o2, none⟩ = some v1 ∧ w'.cell? ⟨B1, o2', none⟩ = some v2 ∧ w'.cell? ⟨B1, o3', none⟩ = some v3) ∧ (w'.cell? ⟨B2, p1, none⟩ = some u0 ∧ w'.cell? ⟨B2, p2, none⟩ = some u1 ∧ w'.cell? ⟨B2, p2', none⟩ = some u2 ∧ w'.cell? ⟨B2, p3', none⟩ = some u3) ∧ Below W.heap.size W w' := by
  obtain ⟨⟨k1, k2, k3, k4⟩, ⟨l1, l2, l3, l4⟩, k0⟩ := hH
  exact ⟨⟨below_at h k1, below_at h k2, below_at h k3, below_at h k4⟩, ⟨below_at h l1, below_at h l2, below_at h l3, below_at h l4⟩, below_tr h k0⟩

theorem infoTrip : (Try.prog.info? 40).map (fun i => (i.zero, i.size, i.bytes)) = some (some (.agg #[.int .i64 0, .int .i64 0, .int .i64 0, .int .i64 0]), 4, 32) := by kernel_rfl

theorem mark_step4 (xs : List Value) (n : Nat) (m : Int) (hl : xs.length = n * 4) (k : Nat) (hk : k < n) :
    (((((((List.range (k * 4)).map fun (i : Nat) => vi (m + (i : Int))) ++ xs.drop (k * 4)).set (k * 4) (.int .i64 (m + (k : Int) * 4))).set (k * 4 + 1) (.int .i64 (m + (k : Int) * 4 + 1))).set (k * 4 + 2) (.int .i64 (m + (k : Int) * 4 + 1 + 1))).set (k * 4 + 3) (.int .i64 (m + (k : Int) * 4 + 1 + 1 + 1)))
      = ((List.range ((k + 1) * 4)).map fun (i : Nat) => vi (m + (i : Int))) ++ xs.drop ((k + 1) * 4) := by
  have ST := fun j (h : j < n * 4) => mark_step (fun (i : Nat) => vi (m + (i : Int))) xs (n * 4) j hl h
  have e0 : (Value.int .i64 (m + (k : Int) * 4)) = vi (m + ((k * 4 : Nat) : Int)) := by rw [vi]; congr 1
  have e1 : (Value.int .i64 (m + (k : Int) * 4 + 1)) = vi (m + ((k * 4 + 1 : Nat) : Int)) := by rw [vi]; congr 1; omega
  have e2 : (Value.int .i64 (m + (k : Int) * 4 + 1 + 1)) = vi (m + ((k * 4 + 2 : Nat) : Int)) := by rw [vi]; congr 1; omega
  have e3 : (Value.int .i64 (m + (k : Int) * 4 + 1 + 1 + 1)) = vi (m + ((k * 4 + 3 : Nat) : Int)) := by rw [vi]; congr 1; omega
  rw [e0, ST _ (by omega), e1, ST _ (by omega), e2, ST _ (by omega), e3, ST _ (by omega), show (k + 1) * 4 = k * 4 + 3 + 1 by omega]

end Go.Proofs.Ytjcmgjjnkbhamaa
