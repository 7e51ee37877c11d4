/- Comparison of int64, the keys of trips, the numbers from 0 on: contracts. -/
import Derived.Test.YtaeajjfdljpioaaProg
import Derived.Test.YtaeajjfdljpioaaApp
import Derived.Test.YtaeajjfdljpioaaWords
import Derived.Sort.AtCall
import Derived.Deep.CutRange
namespace Go.Proofs.Ytaeajjfdljpioaa
open Go.RowKit Plain
set_option linter.unusedVariables false
set_option linter.unusedSimpArgs false
attribute [local go_sem ↓] Go.wp_at_zero Go.wp_at_succ
def cmpI (x y : Int) : Int := if x < y then -1 else if y < x then 1 else 0
def upTo (n : Nat) : List Int := (List.range n).map fun i : Nat => (i : Int)
theorem upTo_succ (n : Nat) : upTo (n + 1) = upTo n ++ [(n : Int)] := by simp [upTo, List.range_succ]
theorem upTo_len (n : Nat) : (upTo n).length = n := by simp [upTo]
set_option maxHeartbeats 1000000 in
theorem counting_any (n : Nat) (hn : n ≤ 1000) (w : World) : Calls Try.prog 29 #[.int .i64 n] w fun r w' => ∃ u, r = .returned u ∧ w'.ownsRow w.heap.size 2 1 u n ((upTo n).map vi) ∧ Below w.heap.size w w' := by
  go_enter Try.func29, Try.ntmps29
  go_upto_region 3 with fail
  go_loopw [3, 7] (fun out iv wr => ∃ k : Nat, k ≤ n ∧ iv = .int .i64 k ∧ Hid (wr.ownsRow w.heap.size 2 1 out k ((upTo k).map vi)) ∧ Hid (Below w.heap.size w wr)) (fun _ iv _ => n - (intOf iv).toNat)
  case atStart =>
    have hstart := World.ownsRow_made (base := w.heap.size) (size := 1) w #[] 0 (Nat.le_refl _) (by unfold maxLen; omega) rfl (e := 2)
    exact ⟨0, by omega, rfl, hd (by simpa [upTo] using hstart), hd ((Below.refl _ _).alloc (Nat.le_refl _) _)⟩
  case round =>
    obtain ⟨k, hk, rfl, HO, HB⟩ := hrel
    by_cases hlt : k < n
    · have k2 : (k : Int) < (n : Int) := Int.ofNat_lt.2 hlt
      go_wp2_with (at_builtin; go_must (refine wpList_app_int _ _ _ rfl _ _ rfl w.heap.size k _ _ rfl HO.out rfl _ rfl (by simp) (by omega) HB.out.size ?_); intro v' w1 ho1 hg1 hap; have HO1 := hd ho1; have HB1 := hd (below_row hg1 HB.out (own_row HO.out (Nat.le_refl _))); clear ho1 hg1 hap)
      go_roundw
      case rel =>
        refine ⟨k + 1, by omega, by go_num, hd ?_, HB1⟩
        rw [upTo_succ, List.map_append]
        exact HO1.out
      case measure => simp [intOf]; omega
    · obtain rfl : k = n := by omega
      go_wp2
      go_ret
      exact ⟨_, rfl, HO.out, HB.out⟩
end Go.Proofs.Ytaeajjfdljpioaa
