/- Whatever rule of shifts and text are given, the program's IsShift and the reference's return the same: the law returns true. No condition beside the row's own listed tables, which are not read. -/
import Derived.Test.YtmjdhignhdphpaaDoorRows
import Derived.Test.YtmjdhignhdphpaaDoorCards
import Derived.Test.YtmjdhignhdphpaaDoorTie
import Derived.Test.YtmjdhignhdphpaaDoorRule
import Derived.Test.YtmjdhignhdphpaaDoorStatesI
import Derived.Test.YtmjdhignhdphpaaDoorStatesS
import Derived.Test.YtmjdhignhdphpaaDoorOpen
import Derived.Carry
import Derived.Lay
import Derived.LaidMore
import Derived.LaidOnce
import Derived.SevenTiedAt
namespace Go.Proofs.YtmjdhignhdphpaaDoor.lFnExactIsShift
open Go.ChangeShapes Go.WideShapes Go.ChangeAt Go.RowKit Go.Proofs.YtmjdhignhdphpaaDoor Plain
set_option linter.unusedVariables false
set_option linter.unusedSimpArgs false
attribute [local go_sem ↓] Go.wp_at_zero Go.wp_at_succ

def isM (r : SR) (t : ByteArray) : Bool := validS r && isS (limS r) r.slots t
set_option maxHeartbeats 1000000 in
theorem specIsShift_any (r : SR) (t : ByteArray) (ht : t.size ≤ maxLen) (w : World) :
    Calls Tryd.prog 5 #[r.val, .string t] w fun e w' => e = .returned (.tuple #[.bool (isM r t), .bool (validS r)]) ∧ Below w.heap.size w w' := by
  have hI := hd (fun W h => l06Is_any r w.heap.size 0 W h)
  have S0 := hd (srat_box w r 26)
  cases hv : validS r with
  | false =>
    have HM := hd (show isM r t = false by rw [isM, hv]; rfl)
    rw [HM.out]
    rw [hv] at hI
    clear hv
    obtain ⟨a, b, c, d, e⟩ := r
    simp only [SR.val] at *
    go_enter Tryd.func5, Tryd.ntmps5
    go_wp2_with (go_at_call 10; refine (hI.out _ S0.out).mono ?_; rintro e w' ⟨rfl, m, rfl⟩)
    go_ret2
    exact ⟨rfl, below_drewN ((Below.refl w.heap.size w).alloc (Nat.le_refl _) _) m⟩
  | true =>
    have HM := hd (show isM r t = isS (limS r) r.slots t by rw [isM, hv]; rfl)
    have hS := hd (fun W h => l06Shift_any w.heap.size 0 r hv t ht W h)
    rw [HM.out]
    rw [hv] at hI
    generalize isS (limS r) r.slots t = q at *
    clear hv
    obtain ⟨a, b, c, d, e⟩ := r
    simp only [SR.val] at *
    go_enter Tryd.func5, Tryd.ntmps5
    go_wp2_with (first
      | (go_at_call 10; refine (hI.out _ S0.out).mono ?_; rintro e w' ⟨rfl, m, rfl⟩)
      | (go_at_call 11; refine (hS.out _ (srat_drewN S0.out m)).mono ?_; rintro e w2 ⟨rfl, hb2⟩))
    go_ret2
    exact ⟨rfl, below_tr hb2 (show Below w.heap.size w _ from below_drewN ((Below.refl w.heap.size w).alloc (Nat.le_refl _) _) m)⟩

set_option maxHeartbeats 1000000 in
theorem implIsShift_any (r : SR) (t : ByteArray) (ht : t.size ≤ maxLen) (w : World) :
    Calls Tryd.prog 7 #[r.val, .string t] w fun e w' => e = .returned (.tuple #[.bool (isM r t), .bool (validS r)]) ∧ Below w.heap.size w w' := by
  have hI := hd (fun W => ValidRule_any r W)
  have S0 := hd (srat_box w r 26)
  cases hv : validS r with
  | false =>
    have HM := hd (show isM r t = false by rw [isM, hv]; rfl)
    rw [HM.out]
    rw [hv] at hI
    clear hv
    obtain ⟨a, b, c, d, e⟩ := r
    simp only [SR.val] at *
    go_enter Tryd.func7, Tryd.ntmps7
    go_wp2_with (go_at_call 12; refine (hI.out _).mono ?_; rintro e w1 ⟨rfl, hb1⟩)
    go_ret2
    exact ⟨rfl, below_tr hb1 ((Below.refl w.heap.size w).alloc (Nat.le_refl _) _)⟩
  | true =>
    have HM := hd (show isM r t = isS (limS r) r.slots t by rw [isM, hv]; rfl)
    have hS := hd (fun W => states_any r hv t ht W)
    rw [HM.out]
    rw [hv] at hI
    clear hv
    generalize hq : isS (limS r) r.slots t = q at *
    have HQ := hd hq
    clear hq
    obtain ⟨a, b, c, d, e⟩ := r
    simp only [SR.val] at *
    go_enter Tryd.func7, Tryd.ntmps7
    go_wp2_with (first
      | (go_at_call 12; refine (hI.out _).mono ?_; rintro e w1 ⟨rfl, hb1⟩; have HB1 := hd (below_tr hb1 ((Below.refl w.heap.size w).alloc (Nat.le_refl _) (.cells #[.int .i64 a, .int .i64 b, .int .i64 c, .int .i64 d, .int .i64 e] 26))); obtain ⟨r0, r1, r2, r3, r4⟩ := S0.out.below hb1; clear hb1; simp only at r0 r1 r2 r3 r4)
      | (go_at_call 13; refine (hS.out _).mono ?_; rintro e w2 ⟨u, rfl, hb2, _⟩; rw [HQ.out]))
    go_ret2
    exact ⟨rfl, below_tr hb2 HB1.out⟩

set_option maxHeartbeats 1000000 in
theorem walk (w : World) (x : SR) (hx : x.I64) (t : ByteArray) (y : t.size ≤ maxLen) :
    Calls Tryd.prog 3 #[x.val, .string t] w fun e w' => e = .returned (.bool true) ∧ Below w.heap.size w w' := by
  have hspec := hd (specIsShift_any x t y)
  have himpl := hd (implIsShift_any x t y)
  have ht := hd (toShiftRule_any x)
  generalize validS x = q at *
  generalize isM x t = m at *
  obtain ⟨a, b, c, d, e⟩ := x
  clear hx
  simp only [SR.val] at *
  unfold maxLen at y
  by_cases hl : (1048576 : Int) < (t.size : Int)
  · go_enter Tryd.func3, Tryd.ntmps3
    go_wp2
    go_ret
    exact ⟨rfl, (Below.refl _ _).alloc (Nat.le_refl _) _⟩
  go_enter Tryd.func3, Tryd.ntmps3
  go_wp2_with fail
  refine (ht.out _).mono ?_
  rintro e1 w1 ⟨rfl, hb1⟩
  have c0 := below_at hb1 (a := ⟨w.heap.size, 0, none⟩) (v := .int .i64 a) (by simp [go_sem])
  have c1 := below_at hb1 (a := ⟨w.heap.size, 1, none⟩) (v := .int .i64 b) (by simp [go_sem])
  have c2 := below_at hb1 (a := ⟨w.heap.size, 2, none⟩) (v := .int .i64 c) (by simp [go_sem])
  have c3 := below_at hb1 (a := ⟨w.heap.size, 3, none⟩) (v := .int .i64 d) (by simp [go_sem])
  have c4 := below_at hb1 (a := ⟨w.heap.size, 4, none⟩) (v := .int .i64 e) (by simp [go_sem])
  have hb1' := below_tr hb1 ((Below.refl w.heap.size w).alloc (Nat.le_refl _) _)
  clear hb1
  go_wp2_with fail
  refine (hspec.out _).mono ?_
  rintro e2 w2 ⟨rfl, hb2⟩
  have d0 := below_at hb2 c0
  have d1 := below_at hb2 c1
  have d2 := below_at hb2 c2
  have d3 := below_at hb2 c3
  have d4 := below_at hb2 c4
  have hb2' := below_tr hb2 hb1'
  clear hb2 hb1' c0 c1 c2 c3 c4
  go_wp2_with fail
  refine (ht.out _).mono ?_
  rintro e3 w3 ⟨rfl, hb3⟩
  have hb3' := below_tr hb3 hb2'
  clear hb3 hb2' d0 d1 d2 d3 d4
  go_wp2_with fail
  refine (himpl.out _).mono ?_
  rintro e4 w4 ⟨rfl, hb4⟩
  have hb4' := below_tr hb4 hb3'
  clear hb4 hb3'
  go_wp2
  go_ret
  exact ⟨rfl, hb4'⟩

theorem own : ownKnob Tryd.prog.godebug = none := by kernel_rfl
theorem laidOut : laidOutB Tryd.prog = true := by kernel_rfl

set_option maxRecDepth 100000 in
theorem lifted (os : Os) (started : os.Started) (H : Type) (enc : TypeId × Value → H) :
    ReturnsInHanded {} Tryd.checked os 3 .any (fun w args => (Rows.fnExactIsShiftSpec.pre enc Tryd.prog Tryd.f3 Rows.fnExactIsShiftRow.domain false w args ∧ laidMetH Tryd.prog Rows.fnExactIsShiftRow.laid w) ∧ sizedMet enc Tryd.prog Tryd.f3 (OpenSpec.ofChange Rows.fnExactIsShiftSpec) false w args) (Rows.fnExactIsShiftSpec.post enc Tryd.prog Tryd.f3 false true false false) := by
  refine returnsInHanded_of_change_and (C := Tryd.checked) (X := fun w _ => laidMetH Tryd.prog Rows.fnExactIsShiftRow.laid w) (fun _ _ _ hh h => h.of_heap hh) own started (by as_aux_lemma => kernel_rfl) Tryd.func3
    (ChangeSpec.witness_shaped (enc := enc) (C := Tryd.checked) (os := os) (X := fun w _ => laidMetH Tryd.prog Rows.fnExactIsShiftRow.laid w) false (World.laidAll Tryd.prog os Rows.fnExactIsShiftRow.laid) #[.agg #[.int .i64 0, .int .i64 0, .int .i64 0, .int .i64 0, .int .i64 0], .string ByteArray.empty] 8 (World.laidAll_os _ _ _)
      (World.shaped_of_ZipB (by as_aux_lemma => kernel_rfl) (by as_aux_lemma => kernel_rfl)) (by as_aux_lemma => kernel_rfl) (by as_aux_lemma => kernel_rfl) (by as_aux_lemma => kernel_rfl)
      (by rw [MakeChecks.laidMetH_plain _ _ _ (by as_aux_lemma => kernel_rfl)]; exact laidMet_laidAll _ (by as_aux_lemma => kernel_rfl) (by as_aux_lemma => kernel_rfl))) ?_
  intro W base args ds gs before hval0 hW hcnd _ hLaid _
  have hval : ∀ (j : Nat) t v, Tryd.f3.params[j]? = some t → args[j]? = some v → Value.okWide Tryd.prog W .any base t v := hval0
  have hW' := hW
  obtain ⟨p, q, hA0, hV, rfl, hfz, hnd⟩ := hW
  have hA : DataW.TrodAll enc Tryd.prog W 0 (fun _ => true) true Tryd.f3.params.toList args.toList ds p := hA0
  rw [Tryd.params3] at hA hval
  obtain ⟨v0, vs0, d0, ds0, p0, q0, hargs, rfl, rfl, h0, r0⟩ := trodAll_cons hA
  obtain ⟨v1, vs1, d1, ds1, p1, q1, rfl, rfl, rfl, h1, r1⟩ := trodAll_cons r0
  obtain ⟨rfl, rfl, rfl⟩ := trodAll_nil r1
  obtain rfl : args = #[v0, v1] := by cases args; simp_all
  obtain ⟨rfl, rfl⟩ := trodVars_none hV
  have k0 := h0
  have lt0 : ∀ x ∈ p0, x.block < W.heap.size := by obtain ⟨m, hm⟩ := k0; exact DataW.trod_lt m _ _ _ hm
  obtain ⟨x0, i0, rfl⟩ := arg_agg5 Tryd.underlying23 Tryd.underlying2 rfl (by as_aux_lemma => kernel_rfl) (by as_aux_lemma => kernel_rfl) (hval 0 23 v0 rfl rfl) h0
  have k1 := h1
  have lt1 : ∀ x ∈ p1, x.block < W.heap.size := by obtain ⟨m, hm⟩ := k1; exact DataW.trod_lt m _ _ _ hm
  obtain ⟨a1, rfl, _, _, w1⟩ := Go.ChangeMaps.open_string Tryd.underlying9 (hval 1 9 v1 rfl rfl) h1
  clear hA0 hval0
  refine (walk W x0 i0 a1 w1).mono fun e W' ⟨he, bel⟩ => ?_
  subst he
  exact ⟨_, rfl, _, _, _, [], _, [], hW', trodAll_mk1 (shut_bool Tryd.underlying4 _), (trodAll_cons_mk (Below.trod laidOut (by as_aux_lemma => kernel_rfl) (of_decide_eq_true (by as_aux_lemma => kernel_rfl)) k0 bel lt0) (trodAll_cons_mk (Below.trod laidOut (by as_aux_lemma => kernel_rfl) (of_decide_eq_true (by as_aux_lemma => kernel_rfl)) k1 bel lt1) (trodAll_mk0))), rfl, bel.frame _, fun h => by cases h⟩

/-- The row. -/
theorem rowHolds : Rows.FnExactIsShiftSaid :=
  OpenClaim.holds_of_wide 3 Tryd.f3 rfl rfl rfl rfl rfl rfl rfl ⟨rfl, rfl, rfl, rfl, rfl⟩ rfl rfl rfl rfl rfl (by kernel_rfl) Tryd.func3 (by kernel_rfl)
    (of_decide_eq_true (by kernel_rfl)) (by unfold Func.isWrapper; first | (rw [if_pos (by decide +kernel)]; kernel_rfl) | (rw [if_neg (by decide +kernel)]; exact ⟨rfl, rfl⟩))
    (fun os started H enc _ => lifted os started H enc)
/-- The given statement: the tied card. -/
theorem proved : Rows.FnExactIsShiftCardSaid :=
  Claim7.holds_tied_plain_at .later [] [.data, .pinned] true Rows.fnExactIsShiftCard.stood.harness false rowHolds (fun _ h => by cases h) (by kernel_rfl) (fun _ h => by cases h) fnExactIsShift_row_tie rfl ⟨rfl, rfl⟩ (by kernel_rfl) rfl
    (fun f fn hf hfn => by
      obtain rfl : f = 3 := Option.some.inj ((show Tryd.prog.funcNamed "loop.example/g01389/laws.FnExactIsShift" = some 3 by kernel_rfl).symm.trans hf) |>.symm
      obtain rfl : fn = Tryd.f3 := (Option.some.inj (Tryd.func3.symm.trans hfn)).symm
      exact ⟨by kernel_rfl, fun j t ht => by
        rw [Tryd.params3] at ht
        have hm : t ∈ [23, 9] := by simpa using Array.mem_of_getElem? ht
        have hall : ([23, 9].all fun u => !Tryd.prog.wantsStandIn u) = true := by kernel_rfl
        exact (show Tryd.prog.wantsStandIn t = false by simpa using List.all_eq_true.1 hall t hm)⟩)
    (by kernel_rfl)
#print axioms proved


end Go.Proofs.YtmjdhignhdphpaaDoor.lFnExactIsShift
