/- A whole slice of int64 appended; a clone; whether a list holds a number. -/
import Derived.Test.YtkaopdpdfbkchaaProg
import Derived.Test.YtkaopdpdfbkchaaSlice
import Derived.Test.YtkaopdpdfbkchaaApp
namespace Go.Proofs.Ytkaopdpdfbkchaa
open Go.RowKit Plain
set_option linter.unusedVariables false
set_option linter.unusedSimpArgs false
attribute [local go_sem ↓] Go.wp_at_zero Go.wp_at_succ

theorem wpList_app_all_int {ops : Array Oper} {rest : List Oper} {o : Oper} {a : Act} {Q : Exit → Act → World → Prop} (w : World) (hgd : o.guard = none) (s x : Operand)
    (ho : o.op = .call { callee := .builtin .append, args := #[s, x], argTypes := #[25, 25] }) (base n : Nat) (v : Value) (xs : List Value) (hs : a.eval s = v) (hown : w.ownsRow base 2 1 v n xs)
    (A : Option Addr) (m c : Nat) (vals : List Int) (hx : a.eval x = .slice A m c) (hr : Rd w 1 A m (vals.map vi)) (hm : 0 < m) (hn : n + m ≤ 1048576) (hbase : base ≤ w.heap.size)
    (h : ∀ v' w', w'.ownsRow base 2 1 v' (n + m) (xs ++ vals.map vi) → w.grownBy w' v.ownBlock → Apart w v v' → v' ≠ .slice none 0 0 → wpList Try.prog ops Q rest (a.put o.dst v') w') :
    wpList Try.prog ops Q (o :: rest) a w := by
  obtain ⟨i0, hi, hz0, hz1, hz2⟩ := info_parts infoI64
  obtain ⟨h1, _, h3⟩ := hr
  obtain ⟨b, off, rfl, hc⟩ := h3 hm
  refine wpList_append_own_at _ hgd s x 25 ho base 2 i0 (.int .i64 0) 1 8 Try.underlying25 hi hz0 hz1 hz2 rfl (by decide) v n xs hs hown ⟨b, off, none⟩ m c (vals.map vi) hx h1 (fun j u hu => ?_) (fun u hu => ?_) (by unfold maxLen; omega) (by omega) hbase ?_
  · have := hc j u hu
    unfold Addr.add
    by_cases hj : j = 0 <;> simpa [hj] using this
  · obtain ⟨y, _, rfl⟩ := List.mem_map.1 hu
    rfl
  · intro v' w' k2 k3 k4 k5
    exact h v' w' k2 k3 (apart_of (Nat.le_refl _) k5) (fun e => by have := k4.1 e; omega)

set_option maxHeartbeats 400000 in
set_option maxRecDepth 100000 in
theorem Clone_any (v : Value) (xs : List Int) (w : World) (hs : Sl w 1 v xs.length (xs.map vi)) (hn0 : 0 < xs.length) (hx : xs.length ≤ 1048576) :
    Calls Try.prog 29 #[v] w fun r w' => ∃ u, r = .returned u ∧ w'.ownsRow w.heap.size 2 1 u xs.length (xs.map vi) ∧ Below w.heap.size w w' ∧ u ≠ .slice none 0 0 := by
  obtain ⟨A, cap, rfl, hcap, hr⟩ := hs
  obtain ⟨b, off, rfl, _⟩ := hr.2.2 hn0
  have hr2 := hr.below ((Below.refl _ w).alloc (Nat.le_refl _) (.cells #[] 2))
  have hr2 := hd hr2
  clear hr
  generalize hn : xs.length = n at *
  clear hn
  have he : ∀ w : World, (binOp .eql 25 (.slice (some ⟨b, off, none⟩) n cap) (.slice none 0 0)).run Try.prog w = .ok (.bool false) w := fun _ => rfl
  go_enter Try.func29, Try.ntmps29
  go_wp2_with (at_builtin; go_must (refine wpList_app_all_int _ rfl _ _ rfl w.heap.size 0 _ _ rfl (World.ownsRow_made (size := 1) w #[] 0 (Nat.le_refl _) (by unfold maxLen; omega) rfl (e := 2)) _ n cap xs rfl hr2.out hn0 (by omega) (by simp) ?_); intro v' w' h1 h2 h3 h4)
  go_ret
  refine ⟨_, rfl, by simpa using h1, ?_, h4⟩
  exact ((Below.refl _ w).alloc (Nat.le_refl _) _).grown h2 (by simp) (own_row (World.ownsRow_made (size := 1) w #[] 0 (Nat.le_refl _) (by unfold maxLen; omega) rfl (e := 2)) (Nat.le_refl _))
end Go.Proofs.Ytkaopdpdfbkchaa
