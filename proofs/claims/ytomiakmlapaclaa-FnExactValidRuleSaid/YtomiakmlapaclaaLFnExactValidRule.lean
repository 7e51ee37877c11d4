/- Whatever rule of shifts is given, the program's ValidRule and the reference's return the same bool: the law returns true. No condition. -/
import Derived.Test.YtomiakmlapaclaaRows
import Derived.Test.YtomiakmlapaclaaRule
import Derived.Test.YtomiakmlapaclaaOpen
namespace Go.Proofs.Ytomiakmlapaclaa.lFnExactValidRule
open Go.ChangeShapes Go.WideShapes Go.ChangeAt Go.RowKit Go.Proofs.Ytomiakmlapaclaa Plain
set_option linter.unusedVariables false
attribute [local go_sem ↓] Go.wp_at_zero Go.wp_at_succ

set_option maxHeartbeats 400000 in
theorem specValidRule_any (r : SR) (w : World) :
    Calls Try.prog 12 #[r.val] w fun e w' => e = .returned (.bool (validS r)) ∧ Below w.heap.size w w' := by
  have hI := hd (fun W h => l06Is_any r w.heap.size 0 W h)
  generalize hq : validS r = q at *
  clear hq
  obtain ⟨a, b, c, d, e⟩ := r
  simp only [SR.val] at *
  go_enter Try.func12, Try.ntmps12
  go_wp2_with fail
  refine (hI.out _ ⟨?_, ?_, ?_, ?_, ?_⟩).mono ?_
  case refine_6 =>
    rintro e w' ⟨rfl, m, rfl⟩
    go_wp2
    go_ret
    exact ⟨rfl, below_drewN (by go_grown) m⟩
  all_goals simp [go_sem]

set_option maxHeartbeats 1000000 in
theorem walk (w : World) (x : SR) (hx : x.I64) :
    Calls Try.prog 4 #[x.val] w fun e w' => e = .returned (.bool true) ∧ Below w.heap.size w w' := by
  have hspec := hd (specValidRule_any x)
  have himpl := hd (ValidRule_any x)
  have ht := hd (toShiftRule_any x)
  generalize validS x = q at *
  obtain ⟨a, b, c, d, e⟩ := x
  clear hx
  simp only [SR.val] at *
  go_enter Try.func4, Try.ntmps4
  go_wp2_with fail
  refine (ht.out _).mono ?_
  rintro e1 w1 ⟨rfl, hb1⟩
  have c0 := below_at hb1 (a := ⟨w.heap.size, 0, none⟩) (v := .int .i64 a) (by simp [go_sem])
  have c1 := below_at hb1 (a := ⟨w.heap.size, 1, none⟩) (v := .int .i64 b) (by simp [go_sem])
  have c2 := below_at hb1 (a := ⟨w.heap.size, 2, none⟩) (v := .int .i64 c) (by simp [go_sem])
  have c3 := below_at hb1 (a := ⟨w.heap.size, 3, none⟩) (v := .int .i64 d) (by simp [go_sem])
  have c4 := below_at hb1 (a := ⟨w.heap.size, 4, none⟩) (v := .int .i64 e) (by simp [go_sem])
  have hb1' := below_tr hb1 ((Below.refl w.heap.size w).alloc (Nat.le_refl _) _)
  clear hb1
  go_wp2_with fail
  refine (hspec.out _).mono ?_
  rintro e2 w2 ⟨rfl, hb2⟩
  have d0 := below_at hb2 c0
  have d1 := below_at hb2 c1
  have d2 := below_at hb2 c2
  have d3 := below_at hb2 c3
  have d4 := below_at hb2 c4
  have hb2' := below_tr hb2 hb1'
  clear hb2 hb1' c0 c1 c2 c3 c4
  go_wp2_with fail
  refine (ht.out _).mono ?_
  rintro e3 w3 ⟨rfl, hb3⟩
  have hb3' := below_tr hb3 hb2'
  clear hb3 hb2' d0 d1 d2 d3 d4
  go_wp2_with fail
  refine (himpl.out _).mono ?_
  rintro e4 w4 ⟨rfl, hb4⟩
  have hb4' := below_tr hb4 hb3'
  clear hb4 hb3'
  go_wp2
  go_ret
  exact ⟨rfl, hb4'⟩

theorem own : ownKnob Try.prog.godebug = none := by kernel_rfl
theorem laidOut : laidOutB Try.prog = true := by kernel_rfl

set_option maxRecDepth 100000 in
theorem lifted (os : Os) (started : os.Started) (H : Type) (enc : TypeId × Value → H) :
    ReturnsInHanded {} Try.checked os 4 .any (Rows.fnExactValidRuleSpec.pre6 enc Try.prog Try.f4 Rows.fnExactValidRuleRow.domain false) (Rows.fnExactValidRuleSpec.post enc Try.prog Try.f4 false true false false) := by
  refine returnsInHanded_of_change (C := Try.checked) own started (by kernel_rfl) Try.func4
    (ChangeSpec.witness6 (enc := enc) (C := Try.checked) false ⟨#[], #[.agg #[.int .i64 0, .int .i64 0, .int .i64 0, .int .i64 0, .int .i64 0]], []⟩ 8 (by kernel_rfl) (by kernel_rfl) (by kernel_rfl) (by kernel_rfl)) ?_
  intro W base args ds gs before hval0 hW hcnd _
  have hval : ∀ (j : Nat) t v, Try.f4.params[j]? = some t → args[j]? = some v → Value.okWide Try.prog W .any base t v := hval0
  have hW' := hW
  obtain ⟨p, q, hA0, hV, rfl, hfz, hnd⟩ := hW
  have hA : DataW.TrodAll enc Try.prog W 0 (fun _ => true) true Try.f4.params.toList args.toList ds p := hA0
  rw [Try.params4] at hA hval
  obtain ⟨v0, vs0, d0, ds0, p0, q0, hargs, rfl, rfl, h0, r0⟩ := trodAll_cons hA
  obtain ⟨rfl, rfl, rfl⟩ := trodAll_nil r0
  obtain rfl : args = #[v0] := by cases args; simp_all
  obtain ⟨rfl, rfl⟩ := trodVars_none hV
  have k0 := h0
  have lt0 : ∀ x ∈ p0, x.block < W.heap.size := by obtain ⟨m, hm⟩ := k0; exact DataW.trod_lt m _ _ _ hm
  obtain ⟨x0, i0, rfl⟩ := arg_agg5 Try.underlying23 Try.underlying2 rfl (by kernel_rfl) (by kernel_rfl) (hval 0 23 v0 rfl rfl) h0
  clear hA0 hval0
  refine (walk W x0 i0).mono fun e W' ⟨he, bel⟩ => ?_
  subst he
  exact ⟨_, rfl, _, _, _, [], _, [], hW', trodAll_mk1 (shut_bool Try.underlying4 _), (trodAll_cons_mk (Below.trod laidOut (by kernel_rfl) (of_decide_eq_true (by kernel_rfl)) k0 bel lt0) (trodAll_mk0)), rfl, bel.frame _, fun h => by cases h⟩

/-- The given statement. -/
theorem proved : Rows.FnExactValidRuleSaid :=
  OpenClaim.holds_of_wide 4 Try.f4 rfl rfl rfl rfl rfl rfl rfl ⟨rfl, rfl, rfl, rfl, rfl⟩ rfl rfl rfl rfl rfl (by kernel_rfl) Try.func4 (by kernel_rfl)
    (of_decide_eq_true (by kernel_rfl)) (by unfold Func.isWrapper; first | (rw [if_pos (by decide +kernel)]; kernel_rfl) | (rw [if_neg (by decide +kernel)]; exact ⟨rfl, rfl⟩))
    (fun os started H enc _ => lifted os started H enc)
#print axioms proved

end Go.Proofs.Ytomiakmlapaclaa.lFnExactValidRule
