/- Whatever rule of shifts and text are given, the program's NextShift and the reference's return the same text and the same word: the law returns true. No condition beside the row's own listed tables, which are not read. -/
import Derived.Test.YtmjdhignhdphpaaDoorRows
import Derived.Test.YtmjdhignhdphpaaDoorCards
import Derived.Test.YtmjdhignhdphpaaDoorTie
import Derived.Test.YtmjdhignhdphpaaDoorRule
import Derived.Test.YtmjdhignhdphpaaDoorStatesI
import Derived.Test.YtmjdhignhdphpaaDoorStatesS
import Derived.Test.YtmjdhignhdphpaaDoorNextS
import Derived.Test.YtmjdhignhdphpaaDoorNextI
import Derived.Test.YtmjdhignhdphpaaDoorOpen
import Derived.Carry
import Derived.Lay
import Derived.LaidMore
import Derived.LaidOnce
import Derived.SevenTiedAt
namespace Go.Proofs.YtmjdhignhdphpaaDoor.lFnExactNextShift
open Go.ChangeShapes Go.WideShapes Go.ChangeAt Go.RowKit Go.Proofs.YtmjdhignhdphpaaDoor Plain
set_option linter.unusedVariables false
set_option linter.unusedSimpArgs false
attribute [local go_sem ↓] Go.wp_at_zero Go.wp_at_succ

theorem implNext_any (r : SR) (t : ByteArray) (ht : t.size ≤ maxLen) (w : World) :
    Calls Tryd.prog 9 #[r.val, .string t] w (Str2 (nextM r t) w) := by
  cases h : okN r t with
  | false => rw [nextM_no h]; exact implNext_no r t ht w h
  | true => exact implNext_yes r t ht w h

set_option maxHeartbeats 1000000 in
theorem walk (w : World) (x : SR) (hx : x.I64) (t : ByteArray) (y : t.size ≤ maxLen) :
    Calls Tryd.prog 4 #[x.val, .string t] w fun e w' => e = .returned (.bool true) ∧ Below w.heap.size w w' := by
  have hspec := hd (specNext_any x t y)
  have himpl := hd (implNext_any x t y)
  have ht := hd (toShiftRule_any x)
  generalize nextM x t = m at *
  obtain ⟨m0, m1⟩ := m
  obtain ⟨a, b, c, d, e⟩ := x
  clear hx
  simp only [SR.val] at *
  unfold maxLen at y
  by_cases hl : (1048576 : Int) < (t.size : Int)
  · go_enter Tryd.func4, Tryd.ntmps4
    go_wp2
    go_ret
    exact ⟨rfl, (Below.refl _ _).alloc (Nat.le_refl _) _⟩
  go_enter Tryd.func4, Tryd.ntmps4
  go_wp2_with fail
  refine (ht.out _).mono ?_
  rintro e1 w1 ⟨rfl, hb1⟩
  have c0 := below_at hb1 (a := ⟨w.heap.size, 0, none⟩) (v := .int .i64 a) (by simp [go_sem])
  have c1 := below_at hb1 (a := ⟨w.heap.size, 1, none⟩) (v := .int .i64 b) (by simp [go_sem])
  have c2 := below_at hb1 (a := ⟨w.heap.size, 2, none⟩) (v := .int .i64 c) (by simp [go_sem])
  have c3 := below_at hb1 (a := ⟨w.heap.size, 3, none⟩) (v := .int .i64 d) (by simp [go_sem])
  have c4 := below_at hb1 (a := ⟨w.heap.size, 4, none⟩) (v := .int .i64 e) (by simp [go_sem])
  have hb1' := below_tr hb1 ((Below.refl w.heap.size w).alloc (Nat.le_refl _) _)
  clear hb1
  go_wp2_with fail
  refine (hspec.out _).mono ?_
  rintro e2 w2 ⟨rfl, hb2⟩
  have d0 := below_at hb2 c0
  have d1 := below_at hb2 c1
  have d2 := below_at hb2 c2
  have d3 := below_at hb2 c3
  have d4 := below_at hb2 c4
  have hb2' := below_tr hb2 hb1'
  clear hb2 hb1' c0 c1 c2 c3 c4
  go_wp2_with fail
  refine (ht.out _).mono ?_
  rintro e3 w3 ⟨rfl, hb3⟩
  have hb3' := below_tr hb3 hb2'
  clear hb3 hb2' d0 d1 d2 d3 d4
  go_wp2_with fail
  refine (himpl.out _).mono ?_
  rintro e4 w4 ⟨rfl, hb4⟩
  have hb4' := below_tr hb4 hb3'
  clear hb4 hb3'
  go_wp2
  go_ret
  exact ⟨rfl, hb4'⟩

theorem own : ownKnob Tryd.prog.godebug = none := by kernel_rfl
theorem laidOut : laidOutB Tryd.prog = true := by kernel_rfl

set_option maxRecDepth 100000 in
theorem lifted (os : Os) (started : os.Started) (H : Type) (enc : TypeId × Value → H) :
    ReturnsInHanded {} Tryd.checked os 4 .any (fun w args => (Rows.fnExactNextShiftSpec.pre enc Tryd.prog Tryd.f4 Rows.fnExactNextShiftRow.domain false w args ∧ laidMetH Tryd.prog Rows.fnExactNextShiftRow.laid w) ∧ sizedMet enc Tryd.prog Tryd.f4 (OpenSpec.ofChange Rows.fnExactNextShiftSpec) false w args) (Rows.fnExactNextShiftSpec.post enc Tryd.prog Tryd.f4 false true false false) := by
  refine returnsInHanded_of_change_and (C := Tryd.checked) (X := fun w _ => laidMetH Tryd.prog Rows.fnExactNextShiftRow.laid w) (fun _ _ _ hh h => h.of_heap hh) own started (by as_aux_lemma => kernel_rfl) Tryd.func4
    (ChangeSpec.witness_shaped (enc := enc) (C := Tryd.checked) (os := os) (X := fun w _ => laidMetH Tryd.prog Rows.fnExactNextShiftRow.laid w) false (World.laidAll Tryd.prog os Rows.fnExactNextShiftRow.laid) #[.agg #[.int .i64 0, .int .i64 0, .int .i64 0, .int .i64 0, .int .i64 0], .string ByteArray.empty] 8 (World.laidAll_os _ _ _)
      (World.shaped_of_ZipB (by as_aux_lemma => kernel_rfl) (by as_aux_lemma => kernel_rfl)) (by as_aux_lemma => kernel_rfl) (by as_aux_lemma => kernel_rfl) (by as_aux_lemma => kernel_rfl)
      (by rw [MakeChecks.laidMetH_plain _ _ _ (by as_aux_lemma => kernel_rfl)]; exact laidMet_laidAll _ (by as_aux_lemma => kernel_rfl) (by as_aux_lemma => kernel_rfl))) ?_
  intro W base args ds gs before hval0 hW hcnd _ hLaid _
  have hval : ∀ (j : Nat) t v, Tryd.f4.params[j]? = some t → args[j]? = some v → Value.okWide Tryd.prog W .any base t v := hval0
  have hW' := hW
  obtain ⟨p, q, hA0, hV, rfl, hfz, hnd⟩ := hW
  have hA : DataW.TrodAll enc Tryd.prog W 0 (fun _ => true) true Tryd.f4.params.toList args.toList ds p := hA0
  rw [Tryd.params4] at hA hval
  obtain ⟨v0, vs0, d0, ds0, p0, q0, hargs, rfl, rfl, h0, r0⟩ := trodAll_cons hA
  obtain ⟨v1, vs1, d1, ds1, p1, q1, rfl, rfl, rfl, h1, r1⟩ := trodAll_cons r0
  obtain ⟨rfl, rfl, rfl⟩ := trodAll_nil r1
  obtain rfl : args = #[v0, v1] := by cases args; simp_all
  obtain ⟨rfl, rfl⟩ := trodVars_none hV
  have k0 := h0
  have lt0 : ∀ x ∈ p0, x.block < W.heap.size := by obtain ⟨m, hm⟩ := k0; exact DataW.trod_lt m _ _ _ hm
  obtain ⟨x0, i0, rfl⟩ := arg_agg5 Tryd.underlying23 Tryd.underlying2 rfl (by as_aux_lemma => kernel_rfl) (by as_aux_lemma => kernel_rfl) (hval 0 23 v0 rfl rfl) h0
  have k1 := h1
  have lt1 : ∀ x ∈ p1, x.block < W.heap.size := by obtain ⟨m, hm⟩ := k1; exact DataW.trod_lt m _ _ _ hm
  obtain ⟨a1, rfl, _, _, w1⟩ := Go.ChangeMaps.open_string Tryd.underlying9 (hval 1 9 v1 rfl rfl) h1
  clear hA0 hval0
  refine (walk W x0 i0 a1 w1).mono fun e W' ⟨he, bel⟩ => ?_
  subst he
  exact ⟨_, rfl, _, _, _, [], _, [], hW', trodAll_mk1 (shut_bool Tryd.underlying4 _), (trodAll_cons_mk (Below.trod laidOut (by as_aux_lemma => kernel_rfl) (of_decide_eq_true (by as_aux_lemma => kernel_rfl)) k0 bel lt0) (trodAll_cons_mk (Below.trod laidOut (by as_aux_lemma => kernel_rfl) (of_decide_eq_true (by as_aux_lemma => kernel_rfl)) k1 bel lt1) (trodAll_mk0))), rfl, bel.frame _, fun h => by cases h⟩

/-- The row. -/
theorem rowHolds : Rows.FnExactNextShiftSaid :=
  OpenClaim.holds_of_wide 4 Tryd.f4 rfl rfl rfl rfl rfl rfl rfl ⟨rfl, rfl, rfl, rfl, rfl⟩ rfl rfl rfl rfl rfl (by kernel_rfl) Tryd.func4 (by kernel_rfl)
    (of_decide_eq_true (by kernel_rfl)) (by unfold Func.isWrapper; first | (rw [if_pos (by decide +kernel)]; kernel_rfl) | (rw [if_neg (by decide +kernel)]; exact ⟨rfl, rfl⟩))
    (fun os started H enc _ => lifted os started H enc)
/-- The given statement: the tied card. -/
theorem proved : Rows.FnExactNextShiftCardSaid :=
  Claim7.holds_tied_plain_at .later [] [.data, .pinned] true Rows.fnExactNextShiftCard.stood.harness false rowHolds (fun _ h => by cases h) (by kernel_rfl) (fun _ h => by cases h) fnExactNextShift_row_tie rfl ⟨rfl, rfl⟩ (by kernel_rfl) rfl
    (fun f fn hf hfn => by
      obtain rfl : f = 4 := Option.some.inj ((show Tryd.prog.funcNamed "loop.example/g01389/laws.FnExactNextShift" = some 4 by kernel_rfl).symm.trans hf) |>.symm
      obtain rfl : fn = Tryd.f4 := (Option.some.inj (Tryd.func4.symm.trans hfn)).symm
      exact ⟨by kernel_rfl, fun j t ht => by
        rw [Tryd.params4] at ht
        have hm : t ∈ [23, 9] := by simpa using Array.mem_of_getElem? ht
        have hall : ([23, 9].all fun u => !Tryd.prog.wantsStandIn u) = true := by kernel_rfl
        exact (show Tryd.prog.wantsStandIn t = false by simpa using List.all_eq_true.1 hall t hm)⟩)
    (by kernel_rfl)
#print axioms proved


end Go.Proofs.YtmjdhignhdphpaaDoor.lFnExactNextShift
