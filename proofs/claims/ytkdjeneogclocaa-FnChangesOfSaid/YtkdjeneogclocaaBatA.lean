/- The better one of two places of the table of batches: a contract. -/
import Derived.Test.YtkdjeneogclocaaBatT
import Derived.Test.YtkdjeneogclocaaChgA
import Derived.Test.YtkdjeneogclocaaCmpI
import Derived.Laws.Rows
namespace Go.Proofs.Ytkdjeneogclocaa
open Go.RowKit Plain
set_option linter.unusedVariables false
set_option linter.unusedSimpArgs false
attribute [local go_sem ↓] Go.wp_at_zero Go.wp_at_succ
/-- some integer, and nothing else -/
def AnyInt (w : World) (r : Ending) (w' : World) : Prop := ∃ x : Int, r = .returned (.int .i64 x) ∧ w' = w
set_option maxHeartbeats 1000000 in
theorem CompareL_any (U V : Value) (a b : List Int) (n m : Nat) (w : World) (hu : Sl w 1 U n (a.map vi)) (hv : Sl w 1 V m (b.map vi)) (n9 : n ≤ 100) (m9 : m ≤ 100) :
    Calls Try.prog 29 #[U, V] w (AnyInt w) := by
  obtain ⟨A, c, rfl, _, hr⟩ := hu
  obtain ⟨B, d, rfl, _, hr'⟩ := hv
  have HR := hd hr
  have HR' := hd hr'
  have CM := hd (fun (x y : Int) w => compare_any x y w)
  clear hr hr'
  go_enter Try.func29, Try.ntmps29
  go_wp2
  go_loopw [11] (fun iv wr => ∃ k : Nat, k ≤ n ∧ iv = .int .i64 k ∧ wr = w) (fun iv _ => n - (intOf iv).toNat)
  case atStart => exact ⟨0, by omega, rfl, rfl⟩
  case round =>
    obtain ⟨k, hk, rfl, hw⟩ := hrel
    subst hw
    by_cases hlt : k < n
    · have k2 : (k : Int) < (n : Int) := Int.ofNat_lt.2 hlt
      obtain ⟨ba, oa, rfl, c1⟩ := HR.out.int hlt
      generalize a.getD k 0 = x at *
      by_cases hkm : k < m
      · have k3 : (k : Int) < (m : Int) := Int.ofNat_lt.2 hkm
        obtain ⟨bb, ob, rfl, c2⟩ := HR'.out.int hkm
        generalize b.getD k 0 = y at *
        have hk3 : ¬ (k : Int) ≥ (m : Int) := by omega
        obtain ⟨z, hz⟩ : ∃ z, z = cmpI x y := ⟨_, rfl⟩
        have CM2 := hd (hz ▸ CM.out x y wr)
        clear hz CM
        by_cases hz0 : z = 0
        · subst hz0
          go_wp2_with (go_at_call 31; refine CM2.out.mono ?_; rintro e w' ⟨rfl, hw⟩; replace hw := hw.symm; subst hw)
          go_roundw
          case rel => exact ⟨k + 1, by omega, by go_num, by first | rfl | trivial⟩
          case measure => simp [intOf]; omega
        · go_wp2_with (go_at_call 31; refine CM2.out.mono ?_; rintro e w' ⟨rfl, hw⟩; replace hw := hw.symm; subst hw)
          go_ret
          exact ⟨z, rfl, rfl⟩
      · have hk3 : (k : Int) ≥ (m : Int) := by omega
        go_wp2
        go_ret
        exact ⟨1, rfl, rfl⟩
    · obtain rfl : n = k := by omega
      by_cases hnm : (n : Int) < (m : Int)
      · go_wp2
        go_ret
        exact ⟨-1, rfl, rfl⟩
      · go_wp2
        go_ret
        exact ⟨0, rfl, rfl⟩
def nl (s : List Nat) : List Int := s.map fun x : Nat => (x : Int)
/-- how a place of the table lies in memory -/
def CellV (w : World) (G : Nat) (m : BCell) (v : Value) : Prop :=
  match m with
  | none => v = .agg #[.bool false, .int .i64 0, .slice none 0 0]
  | some (c, s) => ∃ z, v = .agg #[.bool true, .int .i64 c, z] ∧ w.ownsRow G 2 1 z s.length ((nl s).map vi) ∧ s.length ≤ 9
theorem CellV.below {w w' : World} {G : Nat} {m : BCell} {v : Value} (h : CellV w G m v) (hb : Below w.heap.size w w') : CellV w' G m v := by
  cases m with
  | none => exact h
  | some x =>
    obtain ⟨c, s⟩ := x
    obtain ⟨z, h1, h2, h3⟩ := h
    exact ⟨z, h1, own_below h2 hb, h3⟩
/-- what the call gives -/
def BetterOut (x y : BCell) (a b : Value) (w : World) (r : Ending) (w' : World) : Prop :=
  Below w.heap.size w w' ∧ (r = .returned a ∧ PickA x y ∨ r = .returned b ∧ PickB x y)
theorem CellV.form {w : World} {G : Nat} {m : BCell} {v : Value} (h : CellV w G m v) : ∃ (c : Int) (A : Option Addr) (n cap : Nat) (l : List Int), v = .agg #[.bool m.isSome, .int .i64 c, .slice A n cap] ∧ Sl w 1 (.slice A n cap) n (l.map vi) ∧ n ≤ 9 ∧ ∀ c' s', m = some (c', s') → c' = c := by
  cases m with
  | none => exact ⟨0, none, 0, 0, [], h, ⟨none, 0, rfl, Nat.le_refl _, rfl, by simp, fun h => by omega⟩, by omega, fun _ _ h => by cases h⟩
  | some x =>
    obtain ⟨c, s⟩ := x
    obtain ⟨z, h1, h2, h3⟩ := h
    obtain ⟨A, cap, rfl, h5, h6, _⟩ := own_rd h2 (by unfold maxLen; omega)
    exact ⟨c, A, _, cap, _, h1, ⟨A, cap, rfl, h5, h6⟩, h3, fun _ _ h => by cases h; rfl⟩
theorem size_bat : (Try.prog.info? 50).map (·.size) = some 3 := by kernel_rfl
theorem ret_bat {Q : Ending → World → Prop} {w : World} {A B : Obj} {x y z : Value} {tmps : Array Value} (hp : tmps.getD 4 undef = .pointer (some ⟨w.heap.size + 1 + 1, 0, none⟩))
    (h : Q (.returned (.agg #[x, y, z])) (((w.alloc A).alloc B).alloc (.cells #[x, y, z] 50))) :
    bodyPost Try.prog Try.f21 Q Exit.ret { tmps := tmps, defers := [] } (((w.alloc A).alloc B).alloc (.cells #[x, y, z] 50)) := by
  have hg := heap_alloc_new ((w.alloc A).alloc B) (.cells #[x, y, z] 50)
  rw [show ((w.alloc A).alloc B).heap.size = w.heap.size + 1 + 1 by simp] at hg
  exact bodyPost_ret (results_cell_row (P := Try.prog) rfl _ _ _ _ _ _ _ hp hg Try.underlying50 rfl size_bat) rfl h
set_option maxHeartbeats 4000000 in
theorem better_any (x y : BCell) (a b : Value) (G : Nat) (w : World) (ha : CellV w G x a) (hb : CellV w G y b) :
    Calls Try.prog 21 #[a, b] w (BetterOut x y a b w) := by
  obtain ⟨c, A, n, cap, l, rfl, hs, hn, hc⟩ := CellV.form ha
  obtain ⟨c', A', n', cap', l', rfl, hs', hn', hc'⟩ := CellV.form hb
  have CM := hd (fun (w' : World) (hb : Below w.heap.size w w') => CompareL_any _ _ l l' n n' w' (hs.below hb) (hs'.below hb) (by omega) (by omega))
  clear ha hb hs hs'
  cases y with
  | none =>
    have HP := hd (show PickA x none from .inl rfl)
    generalize x.isSome = t at *
    clear hc hc'
    go_enter Try.func21, Try.ntmps21
    go_wp2
    refine ret_bat rfl ?_
    exact ⟨by go_grown, .inl ⟨rfl, HP.out⟩⟩
  | some q =>
    obtain ⟨c2, s2⟩ := q
    obtain rfl := hc' c2 s2 rfl
    cases x with
    | none =>
      have HP := hd (show PickB none (some (c2, s2)) from ⟨c2, s2, rfl, fun _ _ h => by cases h⟩)
      clear hc hc'
      go_enter Try.func21, Try.ntmps21
      go_wp2
      refine ret_bat rfl ?_
      exact ⟨by go_grown, .inr ⟨rfl, HP.out⟩⟩
    | some p =>
      obtain ⟨c1, s1⟩ := p
      obtain rfl := hc c1 s1 rfl
      have HPA := hd (fun (h : c1 ≤ c2) => (show PickA (some (c1, s1)) (some (c2, s2)) from .inr ⟨c1, s1, c2, s2, rfl, rfl, h⟩))
      have HPB := hd (fun (h : c2 ≤ c1) => (show PickB (some (c1, s1)) (some (c2, s2)) from ⟨c2, s2, rfl, fun _ _ e => by cases e; exact h⟩))
      clear hc hc'
      by_cases h1 : c1 < c2
      · go_enter Try.func21, Try.ntmps21
        go_wp2
        refine ret_bat rfl ?_
        exact ⟨by go_grown, .inl ⟨rfl, HPA.out (by omega)⟩⟩
      · by_cases h2 : c1 = c2
        · subst h2
          go_enter Try.func21, Try.ntmps21
          go_wp2_with (go_at_call 29; refine (CM.out _ (by go_grown)).mono ?_; rintro e w' ⟨z, rfl, hw⟩; replace hw := hw.symm; subst hw)
          · refine ret_bat rfl ?_
            exact ⟨by go_grown, .inl ⟨rfl, HPA.out (by omega)⟩⟩
          · refine ret_bat rfl ?_
            exact ⟨by go_grown, .inr ⟨rfl, HPB.out (by omega)⟩⟩
        · go_enter Try.func21, Try.ntmps21
          go_wp2
          refine ret_bat rfl ?_
          exact ⟨by go_grown, .inr ⟨rfl, HPB.out (by omega)⟩⟩
/-- the same in one way -/
def BetterOne (x y : BCell) (a b : Value) (w : World) (r : Ending) (w' : World) : Prop :=
  ∃ (t : Bool) (c : Int) (A : Option Addr) (n cap : Nat), r = .returned (.agg #[.bool t, .int .i64 c, .slice A n cap]) ∧ Below w.heap.size w w' ∧ (.agg #[.bool t, .int .i64 c, .slice A n cap] = a ∧ PickA x y ∨ .agg #[.bool t, .int .i64 c, .slice A n cap] = b ∧ PickB x y)
theorem better_one (x y : BCell) (a b : Value) (G : Nat) (w : World) (ha : CellV w G x a) (hb : CellV w G y b) :
    Calls Try.prog 21 #[a, b] w (BetterOne x y a b w) := by
  refine (better_any x y a b G w ha hb).mono ?_
  rintro e w' ⟨h1, h2⟩
  obtain ⟨c, A, n, cap, l, h3, _⟩ := CellV.form ha
  obtain ⟨c', A', n', cap', l', h3', _⟩ := CellV.form hb
  rcases h2 with ⟨h4, h5⟩ | ⟨h4, h5⟩
  · exact ⟨_, c, A, n, cap, by rw [h4, h3], h1, .inl ⟨h3.symm, h5⟩⟩
  · exact ⟨_, c', A', n', cap', by rw [h4, h3'], h1, .inr ⟨h3'.symm, h5⟩⟩
end Go.Proofs.Ytkdjeneogclocaa
