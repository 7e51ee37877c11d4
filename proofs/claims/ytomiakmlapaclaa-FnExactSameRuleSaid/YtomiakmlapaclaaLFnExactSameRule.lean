/- Whatever two rules of shifts are given, the program's SameRule and the reference's return the same bool: the law returns true. No condition. -/
import Derived.Test.YtomiakmlapaclaaRows
import Derived.Test.YtomiakmlapaclaaCrews
import Derived.Test.YtomiakmlapaclaaOpen
namespace Go.Proofs.Ytomiakmlapaclaa.lFnExactSameRule
open Go.ChangeShapes Go.WideShapes Go.ChangeAt Go.RowKit Go.Proofs.Ytomiakmlapaclaa Plain
set_option linter.unusedVariables false
attribute [local go_sem ↓] Go.wp_at_zero Go.wp_at_succ

def sameRule (r s : SR) : Bool := r.slots == s.slots && r.least == s.least && r.most == s.most && r.row == s.row && r.pause == s.pause

set_option maxHeartbeats 400000 in
theorem specSameRule_any (r s : SR) (w : World) :
    Calls Try.prog 9 #[r.val, s.val] w fun e w' => e = .returned (.bool (sameRule r s)) ∧ Below w.heap.size w w' := by
  obtain ⟨a, b, c, d, e⟩ := r
  obtain ⟨a', b', c', d', e'⟩ := s
  simp only [SR.val]
  go_enter Try.func9, Try.ntmps9
  go_wp2
  all_goals (go_ret; refine ⟨ret_bool ?_, by go_grown⟩; simp [sameRule, *])

set_option maxHeartbeats 400000 in
theorem implSameRule_any (r s : SR) (w : World) :
    Calls Try.prog 11 #[r.val, s.val] w fun e w' => e = .returned (.bool (sameRule r s)) ∧ Below w.heap.size w w' := by
  obtain ⟨a, b, c, d, e⟩ := r
  obtain ⟨a', b', c', d', e'⟩ := s
  simp only [SR.val]
  go_enter Try.func11, Try.ntmps11
  go_wp2
  all_goals (go_ret; refine ⟨ret_bool ?_, by go_grown⟩; simp [sameRule, *])

/-- The two boxes of the law's arguments, still there. -/
theorem keep {B1 B2 : Nat} {a b c d e a' b' c' d' e' : Int} {W w w' : World} (h : Below w.heap.size w w')
    (hH : (w.cell? ⟨B1, 0, none⟩ = some (.int .i64 a) ∧ w.cell? ⟨B1, 1, none⟩ = some (.int .i64 b) ∧ w.cell? ⟨B1, 2, none⟩ = some (.int .i64 c) ∧ w.cell? ⟨B1, 3, none⟩ = some (.int .i64 d) ∧ w.cell? ⟨B1, 4, none⟩ = some (.int .i64 e)) ∧
      (w.cell? ⟨B2, 0, none⟩ = some (.int .i64 a') ∧ w.cell? ⟨B2, 1, none⟩ = some (.int .i64 b') ∧ w.cell? ⟨B2, 2, none⟩ = some (.int .i64 c') ∧ w.cell? ⟨B2, 3, none⟩ = some (.int .i64 d') ∧ w.cell? ⟨B2, 4, none⟩ = some (.int .i64 e')) ∧ Below W.heap.size W w) :
    (w'.cell? ⟨B1, 0, none⟩ = some (.int .i64 a) ∧ w'.cell? ⟨B1, 1, none⟩ = some (.int .i64 b) ∧ w'.cell? ⟨B1, 2, none⟩ = some (.int .i64 c) ∧ w'.cell? ⟨B1, 3, none⟩ = some (.int .i64 d) ∧ w'.cell? ⟨B1, 4, none⟩ = some (.int .i64 e)) ∧
      (w'.cell? ⟨B2, 0, none⟩ = some (.int .i64 a') ∧ w'.cell? ⟨B2, 1, none⟩ = some (.int .i64 b') ∧ w'.cell? ⟨B2, 2, none⟩ = some (.int .i64 c') ∧ w'.cell? ⟨B2, 3, none⟩ = some (.int .i64 d') ∧ w'.cell? ⟨B2, 4, none⟩ = some (.int .i64 e')) ∧ Below W.heap.size W w' := by
  obtain ⟨⟨k1, k2, k3, k4, k5⟩, ⟨l1, l2, l3, l4, l5⟩, k0⟩ := hH
  exact ⟨⟨below_at h k1, below_at h k2, below_at h k3, below_at h k4, below_at h k5⟩, ⟨below_at h l1, below_at h l2, below_at h l3, below_at h l4, below_at h l5⟩, below_tr h k0⟩

set_option maxHeartbeats 1000000 in
theorem walk (w : World) (x : SR) (hx : x.I64) (y : SR) (hy : y.I64) :
    Calls Try.prog 3 #[x.val, y.val] w fun e w' => e = .returned (.bool true) ∧ Below w.heap.size w w' := by
  have hspec := hd (specSameRule_any x y)
  have himpl := hd (implSameRule_any x y)
  generalize sameRule x y = q at *
  obtain ⟨a, b, c, d, e⟩ := x
  obtain ⟨a', b', c', d', e'⟩ := y
  clear hx hy
  simp only [SR.val] at *
  go_enter Try.func3, Try.ntmps3
  go_wp2
  obtain ⟨W, hW⟩ : ∃ W : World, W = ((w.alloc (.cells #[.int .i64 a, .int .i64 b, .int .i64 c, .int .i64 d, .int .i64 e] 23)).alloc (.cells #[.int .i64 a', .int .i64 b', .int .i64 c', .int .i64 d', .int .i64 e'] 23)) := ⟨_, rfl⟩
  have hb : Below w.heap.size w W := by rw [hW]; go_grown
  have h1 : W.heap[w.heap.size]? = some (.cells #[.int .i64 a, .int .i64 b, .int .i64 c, .int .i64 d, .int .i64 e] 23 (0,0)) := by rw [hW]; simp only [heap_alloc_get, World.size_alloc]; simp
  have h2 : W.heap[w.heap.size+1]? = some (.cells #[.int .i64 a', .int .i64 b', .int .i64 c', .int .i64 d', .int .i64 e'] 23 (0,0)) := by rw [hW]; simp only [heap_alloc_get, World.size_alloc]; simp
  rw [← hW]
  clear hW
  have hbb : w.heap.size ≤ w.heap.size := Nat.le_refl _
  have c1 := cell_of_row W _ 0 _ _ _ h1
  have c2 := cell_of_row W _ 1 _ _ _ h1
  have c3 := cell_of_row W _ 2 _ _ _ h1
  have c4 := cell_of_row W _ 3 _ _ _ h1
  have c5 := cell_of_row W _ 4 _ _ _ h1
  have d1 := cell_of_row W _ 0 _ _ _ h2
  have d2 := cell_of_row W _ 1 _ _ _ h2
  have d3 := cell_of_row W _ 2 _ _ _ h2
  have d4 := cell_of_row W _ 3 _ _ _ h2
  have d5 := cell_of_row W _ 4 _ _ _ h2
  simp at c1 c2 c3 c4 c5 d1 d2 d3 d4 d5
  clear h1 h2 hbb
  have Hb := hd hb
  clear hb
  have hb0 : Below W.heap.size W W.drew := (Below.refl _ _).drew
  generalize hB1 : w.heap.size = B1 at *
  have HB1 := hd hB1
  clear hB1
  generalize hB2 : B1 + 1 = B2 at *
  clear hB2
  go_region_held3 (fun w' => (w'.cell? ⟨B1, 0, none⟩ = some (.int .i64 a) ∧ w'.cell? ⟨B1, 1, none⟩ = some (.int .i64 b) ∧ w'.cell? ⟨B1, 2, none⟩ = some (.int .i64 c) ∧ w'.cell? ⟨B1, 3, none⟩ = some (.int .i64 d) ∧ w'.cell? ⟨B1, 4, none⟩ = some (.int .i64 e)) ∧
      (w'.cell? ⟨B2, 0, none⟩ = some (.int .i64 a') ∧ w'.cell? ⟨B2, 1, none⟩ = some (.int .i64 b') ∧ w'.cell? ⟨B2, 2, none⟩ = some (.int .i64 c') ∧ w'.cell? ⟨B2, 3, none⟩ = some (.int .i64 d') ∧ w'.cell? ⟨B2, 4, none⟩ = some (.int .i64 e')) ∧ Below W.heap.size W w') (first | go_keep | (rename (_ ∧ _ ∧ _ ∧ _ ∧ _) ∧ _ => hH; exact keep h hH))
    (first | (go_at_call 10; refine (toShiftRule_agg _ _ _ _ _ _).mono ?_; rintro e w' ⟨rfl, h⟩) | (go_at_call 9; refine (hspec.out _).mono ?_; rintro e w' ⟨rfl, h⟩))
  rename (_ ∧ _ ∧ _ ∧ _ ∧ _) ∧ _ => hH
  rename World => W2
  have hH2 := hd hH
  clear hH c1 c2 c3 c4 c5 d1 d2 d3 d4 d5 hb0
  go_wp2
  obtain ⟨⟨c1, c2, c3, c4, c5⟩, ⟨d1, d2, d3, d4, d5⟩, hb1⟩ := hH2.out
  have hb0 := hb1.drew
  clear hH2
  go_region_held3 (fun w' => (w'.cell? ⟨B1, 0, none⟩ = some (.int .i64 a) ∧ w'.cell? ⟨B1, 1, none⟩ = some (.int .i64 b) ∧ w'.cell? ⟨B1, 2, none⟩ = some (.int .i64 c) ∧ w'.cell? ⟨B1, 3, none⟩ = some (.int .i64 d) ∧ w'.cell? ⟨B1, 4, none⟩ = some (.int .i64 e)) ∧
      (w'.cell? ⟨B2, 0, none⟩ = some (.int .i64 a') ∧ w'.cell? ⟨B2, 1, none⟩ = some (.int .i64 b') ∧ w'.cell? ⟨B2, 2, none⟩ = some (.int .i64 c') ∧ w'.cell? ⟨B2, 3, none⟩ = some (.int .i64 d') ∧ w'.cell? ⟨B2, 4, none⟩ = some (.int .i64 e')) ∧ Below W.heap.size W w') (first | go_keep | (rename (_ ∧ _ ∧ _ ∧ _ ∧ _) ∧ _ => hH; exact keep h hH))
    (first | (go_at_call 10; refine (toShiftRule_agg _ _ _ _ _ _).mono ?_; rintro e w' ⟨rfl, h⟩) | (go_at_call 11; refine (himpl.out _).mono ?_; rintro e w' ⟨rfl, h⟩))
  rename (_ ∧ _ ∧ _ ∧ _ ∧ _) ∧ _ => hH
  have hH2 := hd hH.2.2
  clear hH c1 c2 c3 c4 c5 d1 d2 d3 d4 d5 hb0
  go_wp2
  go_ret
  refine ⟨rfl, ?_⟩
  have := Hb.out
  rw [← HB1.out] at this
  exact below_tr hH2.out this

theorem own : ownKnob Try.prog.godebug = none := by kernel_rfl
theorem laidOut : laidOutB Try.prog = true := by kernel_rfl

set_option maxRecDepth 100000 in
theorem lifted (os : Os) (started : os.Started) (H : Type) (enc : TypeId × Value → H) :
    ReturnsInHanded {} Try.checked os 3 .any (Rows.fnExactSameRuleSpec.pre6 enc Try.prog Try.f3 Rows.fnExactSameRuleRow.domain false) (Rows.fnExactSameRuleSpec.post enc Try.prog Try.f3 false true false false) := by
  refine returnsInHanded_of_change (C := Try.checked) own started (by kernel_rfl) Try.func3
    (ChangeSpec.witness6 (enc := enc) (C := Try.checked) false ⟨#[], #[.agg #[.int .i64 0, .int .i64 0, .int .i64 0, .int .i64 0, .int .i64 0], .agg #[.int .i64 0, .int .i64 0, .int .i64 0, .int .i64 0, .int .i64 0]], []⟩ 8 (by kernel_rfl) (by kernel_rfl) (by kernel_rfl) (by kernel_rfl)) ?_
  intro W base args ds gs before hval0 hW hcnd _
  have hval : ∀ (j : Nat) t v, Try.f3.params[j]? = some t → args[j]? = some v → Value.okWide Try.prog W .any base t v := hval0
  have hW' := hW
  obtain ⟨p, q, hA0, hV, rfl, hfz, hnd⟩ := hW
  have hA : DataW.TrodAll enc Try.prog W 0 (fun _ => true) true Try.f3.params.toList args.toList ds p := hA0
  rw [Try.params3] at hA hval
  obtain ⟨v0, vs0, d0, ds0, p0, q0, hargs, rfl, rfl, h0, r0⟩ := trodAll_cons hA
  obtain ⟨v1, vs1, d1, ds1, p1, q1, rfl, rfl, rfl, h1, r1⟩ := trodAll_cons r0
  obtain ⟨rfl, rfl, rfl⟩ := trodAll_nil r1
  obtain rfl : args = #[v0, v1] := by cases args; simp_all
  obtain ⟨rfl, rfl⟩ := trodVars_none hV
  have k0 := h0
  have lt0 : ∀ x ∈ p0, x.block < W.heap.size := by obtain ⟨m, hm⟩ := k0; exact DataW.trod_lt m _ _ _ hm
  obtain ⟨x0, i0, rfl⟩ := arg_agg5 Try.underlying23 Try.underlying2 rfl (by kernel_rfl) (by kernel_rfl) (hval 0 23 v0 rfl rfl) h0
  have k1 := h1
  have lt1 : ∀ x ∈ p1, x.block < W.heap.size := by obtain ⟨m, hm⟩ := k1; exact DataW.trod_lt m _ _ _ hm
  obtain ⟨x1, i1, rfl⟩ := arg_agg5 Try.underlying23 Try.underlying2 rfl (by kernel_rfl) (by kernel_rfl) (hval 1 23 v1 rfl rfl) h1
  clear hA0 hval0
  refine (walk W x0 i0 x1 i1).mono fun e W' ⟨he, bel⟩ => ?_
  subst he
  exact ⟨_, rfl, _, _, _, [], _, [], hW', trodAll_mk1 (shut_bool Try.underlying4 _), (trodAll_cons_mk (Below.trod laidOut (by kernel_rfl) (of_decide_eq_true (by kernel_rfl)) k0 bel lt0) (trodAll_cons_mk (Below.trod laidOut (by kernel_rfl) (of_decide_eq_true (by kernel_rfl)) k1 bel lt1) (trodAll_mk0))), rfl, bel.frame _, fun h => by cases h⟩

/-- The given statement. -/
theorem proved : Rows.FnExactSameRuleSaid :=
  OpenClaim.holds_of_wide 3 Try.f3 rfl rfl rfl rfl rfl rfl rfl ⟨rfl, rfl, rfl, rfl, rfl⟩ rfl rfl rfl rfl rfl (by kernel_rfl) Try.func3 (by kernel_rfl)
    (of_decide_eq_true (by kernel_rfl)) (by unfold Func.isWrapper; first | (rw [if_pos (by decide +kernel)]; kernel_rfl) | (rw [if_neg (by decide +kernel)]; exact ⟨rfl, rfl⟩))
    (fun os started H enc _ => lifted os started H enc)
#print axioms proved

end Go.Proofs.Ytomiakmlapaclaa.lFnExactSameRule
