/- Whatever text of days is given, the program's RosterRuns and the reference's return the same numbers and bool: the law returns true. No condition. -/
import Derived.Test.YtcfkcahibkpjhaaRows
import Derived.Test.YtcfkcahibkpjhaaStrs
import Derived.Test.YtcfkcahibkpjhaaMaxMin
import Derived.Test.YtcfkcahibkpjhaaOpen
import Derived.StillTailTactics
namespace Go.Proofs.Ytcfkcahibkpjhaa.lFnExactRosterRuns
open Go.ChangeShapes Go.WideShapes Go.ChangeAt Go.RowKit Go.Proofs.Ytcfkcahibkpjhaa Plain
set_option linter.unusedVariables false
set_option linter.unusedSimpArgs false
attribute [local go_sem ↓] Go.wp_at_zero Go.wp_at_succ

/-- the runs at the end, and the longest so far: of work, of free days -/
structure RR where
  a : Int
  b : Int
  p : Int
  q : Int
def rrStep (r : RR) (c : Int) : RR := if c = 46 then ⟨0, r.b + 1, r.p, max r.q (r.b + 1)⟩ else ⟨r.a + 1, 0, max r.p (r.a + 1), r.q⟩
def rrTo (l : List Int) (k : Nat) : RR := (l.take k).foldl rrStep ⟨0, 0, 0, 0⟩
theorem rr_succ {l : List Int} {k : Nat} {c : Int} (h : l[k]? = some c) : rrTo l (k + 1) = rrStep (rrTo l k) c := by
  rw [rrTo, List.take_add_one, h, List.foldl_append]; rfl
theorem rr_bd (l : List Int) (k : Nat) : 0 ≤ (rrTo l k).a ∧ (rrTo l k).a ≤ k ∧ 0 ≤ (rrTo l k).b ∧ (rrTo l k).b ≤ k ∧ 0 ≤ (rrTo l k).p ∧ (rrTo l k).p ≤ k ∧ 0 ≤ (rrTo l k).q ∧ (rrTo l k).q ≤ k := by
  induction k with
  | zero => simp [rrTo]
  | succ k ih =>
    cases h : l[k]? with
    | none =>
      have e : rrTo l (k + 1) = rrTo l k := by rw [rrTo, List.take_add_one, h]; simp [rrTo]
      rw [e]; omega
    | some c =>
      rw [rr_succ h, rrStep]
      split <;> simp only <;> omega
def M (l : List Int) : Int × Int × Bool := if patB l 128 then ((rrTo l l.length).p, (rrTo l l.length).q, true) else (0, 0, false)

set_option maxHeartbeats 1000000 in
theorem spec_any (w : World) (s : ByteArray) (hs : s.size ≤ maxLen) :
    Calls Try.prog 15 #[.string s] w fun r w' => r = .returned (.tuple #[.int .i64 (M (bs s)).1, .int .i64 (M (bs s)).2.1, .bool (M (bs s)).2.2]) ∧ Below w.heap.size w w' := by
  have hd0 := hd (l06Days_any s 128 w hs (by omega) (by omega))
  cases h1 : patB (bs s) 128 with
  | false =>
    have H := hd (show M (bs s) = (0, 0, false) by rw [M, h1]; rfl)
    rw [h1] at hd0
    clear h1
    go_enter Try.func15, Try.ntmps15
    go_wp2_with (go_at_call 76; refine hd0.out.mono ?_; rintro e w' ⟨rfl, rfl⟩)
    go_ret3
    rw [H.out]
    exact ⟨rfl, Below.refl _ _⟩
  | true =>
    have H := hd (show M (bs s) = ((rrTo (bs s) (bs s).length).p, (rrTo (bs s) (bs s).length).q, true) by rw [M, h1]; rfl)
    have hsz : s.size ≤ 128 := by
      have : (s.size : Int) ≤ 128 := by
        simp only [patB, Bool.and_eq_true, decide_eq_true_eq, bs_len] at h1
        omega
      omega
    rw [h1] at hd0
    clear h1 hs
    go_enter Try.func15, Try.ntmps15
    go_wp2_with (go_at_call 76; refine hd0.out.mono ?_; rintro e w' ⟨rfl, rfl⟩)
    clear hd0
    go_loop [5, 6, 7, 8, 9] (fun a b p q i => ∃ k : Nat, k ≤ s.size ∧ i = .int .i64 k ∧ a = .int .i64 (rrTo (bs s) k).a ∧ b = .int .i64 (rrTo (bs s) k).b ∧ p = .int .i64 (rrTo (bs s) k).p ∧ q = .int .i64 (rrTo (bs s) k).q) (fun _ _ _ _ i => s.size - (intOf i).toNat)
    case atStart => exact ⟨0, by omega, rfl, rfl, rfl, rfl, rfl⟩
    case round =>
      obtain ⟨k, hk, rfl, rfl, rfl, rfl, rfl⟩ := hrel
      by_cases hlt : k < s.size
      · have Hg := hd (rr_succ (bs_get hlt))
        obtain ⟨b1, b2, b3, b4, b5, b6, b7, b8⟩ := rr_bd (bs s) k
        generalize rrTo (bs s) k = r at *
        obtain ⟨a, b, p, q⟩ := r
        simp only at b1 b2 b3 b4 b5 b6 b7 b8 ⊢
        cases hc : ((s[k].toNat : Int) == 46) with
        | true =>
          have Hc := hd hc
          go_wp2_with (go_at_call 77; refine (l00Max_any _ _ _).mono ?_; rintro e w' ⟨rfl, rfl⟩)
          go_round
          case rel =>
            refine ⟨k + 1, by omega, by go_num, ?_⟩
            rw [Hg.out, rrStep, if_pos (by simpa using Hc.out)]
            refine ⟨rfl, rfl, congrArg (Value.int .i64) ?_, rfl⟩
            simp only
            omega
          case measure => simp [intOf]; omega
        | false =>
          have Hc := hd hc
          go_wp2_with (go_at_call 77; refine (l00Max_any _ _ _).mono ?_; rintro e w' ⟨rfl, rfl⟩)
          go_round
          case rel =>
            refine ⟨k + 1, by omega, by go_num, ?_⟩
            rw [Hg.out, rrStep, if_neg (by simpa using Hc.out)]
            refine ⟨rfl, rfl, rfl, congrArg (Value.int .i64) ?_⟩
            simp only
            omega
          case measure => simp [intOf]; omega
      · have e : k = s.size := by omega
        subst e
        have Hl := hd (bs_len s)
        go_wp2
        go_ret3
        rw [H.out, Hl.out]
        exact ⟨rfl, Below.refl _ _⟩

set_option maxHeartbeats 2000000 in
set_option maxRecDepth 100000 in
theorem impl_any (w : World) (s : ByteArray) (hs : s.size ≤ maxLen) :
    Calls Try.prog 16 #[.string s] w fun r w' => r = .returned (.tuple #[.int .i64 (M (bs s)).1, .int .i64 (M (bs s)).2.1, .bool (M (bs s)).2.2]) ∧ Below w.heap.size w w' := by
  have hd0 := hd (isPattern_any s 128 w hs)
  cases h1 : patB (bs s) 128 with
  | false =>
    have H := hd (show M (bs s) = (0, 0, false) by rw [M, h1]; rfl)
    rw [h1] at hd0
    clear h1
    go_enter Try.func16, Try.ntmps16
    go_wp2_with (go_at_call 78; refine hd0.out.mono ?_; rintro e w' ⟨rfl, rfl⟩)
    go_ret3
    rw [H.out]
    exact ⟨rfl, Below.refl _ _⟩
  | true =>
    have H := hd (show M (bs s) = ((rrTo (bs s) (bs s).length).p, (rrTo (bs s) (bs s).length).q, true) by rw [M, h1]; rfl)
    have hsz : s.size ≤ 128 := by
      have : (s.size : Int) ≤ 128 := by
        simp only [patB, Bool.and_eq_true, decide_eq_true_eq, bs_len] at h1
        omega
      omega
    rw [h1] at hd0
    clear h1 hs
    go_enter Try.func16, Try.ntmps16
    go_wp2_with (go_at_call 78; refine hd0.out.mono ?_; rintro e w' ⟨rfl, rfl⟩)
    clear hd0
    go_loopw [16] (fun i wr => ∃ k : Nat, k ≤ s.size ∧ i = .int .i64 k ∧ wr.heap[w.heap.size]? = some (.cells #[.int .i64 (rrTo (bs s) k).p, .int .i64 (rrTo (bs s) k).q] 92 (0, 0)) ∧ wr.heap[w.heap.size + 1]? = some (.cells #[.int .i64 (rrTo (bs s) k).a, .int .i64 (rrTo (bs s) k).b] 92 (0, 0)) ∧ Below w.heap.size w wr) (fun i _ => s.size - (intOf i).toNat)
    case atStart =>
      refine ⟨0, by omega, rfl, ?_, ?_, by go_grown⟩
      · rw [heap_alloc_get, if_neg (by simp), heap_alloc_get, if_pos rfl]; rfl
      · rw [heap_alloc_get, if_pos (by simp)]; rfl
    case round =>
      obtain ⟨k, hk, rfl, hP, hR, hb⟩ := hrel
      by_cases hlt : k < s.size
      · have Hg := hd (rr_succ (bs_get hlt))
        obtain ⟨b1, b2, b3, b4, b5, b6, b7, b8⟩ := rr_bd (bs s) k
        generalize rrTo (bs s) k = r at *
        obtain ⟨a, b, p, q⟩ := r
        simp only at b1 b2 b3 b4 b5 b6 b7 b8 hP hR
        have cp0 := cell_of_row wr _ 0 _ _ _ hP
        have cp1 := cell_of_row wr _ 1 _ _ _ hP
        have cr0 := cell_of_row wr _ 0 _ _ _ hR
        have cr1 := cell_of_row wr _ 1 _ _ _ hR
        have fp0 := frozen_of_row wr _ 0 _ _ hP
        have fp1 := frozen_of_row wr _ 1 _ _ hP
        have fr0 := frozen_of_row wr _ 0 _ _ hR
        have fr1 := frozen_of_row wr _ 1 _ _ hR
        simp at cp0 cp1 cr0 cr1
        have HP := hd hP
        have HR := hd hR
        have Hb := hd hb
        clear hP hR hb
        cases hc : ((s[k].toNat : Int) == 46) with
        | true =>
          have Hc := hd hc
          have Hr := hd (show rrTo (bs s) (k + 1) = ⟨0, b + 1, p, max q (b + 1)⟩ by rw [Hg.out, rrStep, if_pos (by simpa using hc)])
          go_wp2
          obtain ⟨W2, hW⟩ : ∃ W2 : World, W2 = (wr.setCell ⟨w.heap.size + 1, 1, none⟩ (.int .i64 (b + 1))).setCell ⟨w.heap.size + 1, 0, none⟩ (.int .i64 0) := ⟨_, rfl⟩
          have h1 : W2.heap[w.heap.size + 1]? = some (.cells #[.int .i64 0, .int .i64 (b + 1)] 92 (0, 0)) := by
            rw [hW]; exact heap_setCell_same _ _ _ _ _ _ (heap_setCell_same _ _ _ _ _ _ HR.out)
          have h2 : W2.heap[w.heap.size]? = some (.cells #[.int .i64 p, .int .i64 q] 92 (0, 0)) := by
            rw [hW, heap_setCell_other _ _ _ _ (by simp), heap_setCell_other _ _ _ _ (by simp)]; exact HP.out
          have h3 : Below w.heap.size w W2 := by rw [hW]; exact (Hb.out.setCell (by simp) _).setCell (by simp) _
          rw [← hW]
          clear hW cp0 cp1 cr0 cr1 fp0 fp1 fr0 fr1 HP HR Hb
          have cp0 := cell_of_row W2 _ 0 _ _ _ h2
          have cp1 := cell_of_row W2 _ 1 _ _ _ h2
          have cr0 := cell_of_row W2 _ 0 _ _ _ h1
          have cr1 := cell_of_row W2 _ 1 _ _ _ h1
          have fp0 := frozen_of_row W2 _ 0 _ _ h2
          have fp1 := frozen_of_row W2 _ 1 _ _ h2
          simp at cp0 cp1 cr0 cr1
          have HP := hd h2
          have HR := hd h1
          have Hb := hd h3
          clear h1 h2 h3
          go_still_tail 9, (by kernel_rfl)
          change wpList _ _ _ _ _ W2.drew
          go_wp2
          all_goals
            go_roundw
            case rel =>
              refine ⟨k + 1, by omega, by go_num, ?_, ?_, (Hb.out.setCell (Nat.le_refl _) _).drew⟩
              · rw [Hr.out]
                show (W2.setCell ⟨w.heap.size, 1, none⟩ _).heap[w.heap.size]? = _
                rw [heap_setCell_same W2 _ 1 _ _ _ HP.out]
                simp
                try omega
              · rw [Hr.out]
                show (W2.setCell ⟨w.heap.size, 1, none⟩ _).heap[w.heap.size + 1]? = _
                rw [heap_setCell_other _ _ _ _ (by simp)]
                exact HR.out
            case measure => simp [intOf]; omega
        | false =>
          have Hc := hd hc
          have Hr := hd (show rrTo (bs s) (k + 1) = ⟨a + 1, 0, max p (a + 1), q⟩ by rw [Hg.out, rrStep, if_neg (by simpa using hc)])
          go_wp2
          obtain ⟨W2, hW⟩ : ∃ W2 : World, W2 = (wr.setCell ⟨w.heap.size + 1, 0, none⟩ (.int .i64 (a + 1))).setCell ⟨w.heap.size + 1, 1, none⟩ (.int .i64 0) := ⟨_, rfl⟩
          have h1 : W2.heap[w.heap.size + 1]? = some (.cells #[.int .i64 (a + 1), .int .i64 0] 92 (0, 0)) := by
            rw [hW]; exact heap_setCell_same _ _ _ _ _ _ (heap_setCell_same _ _ _ _ _ _ HR.out)
          have h2 : W2.heap[w.heap.size]? = some (.cells #[.int .i64 p, .int .i64 q] 92 (0, 0)) := by
            rw [hW, heap_setCell_other _ _ _ _ (by simp), heap_setCell_other _ _ _ _ (by simp)]; exact HP.out
          have h3 : Below w.heap.size w W2 := by rw [hW]; exact (Hb.out.setCell (by simp) _).setCell (by simp) _
          rw [← hW]
          clear hW cp0 cp1 cr0 cr1 fp0 fp1 fr0 fr1 HP HR Hb
          have cp0 := cell_of_row W2 _ 0 _ _ _ h2
          have cp1 := cell_of_row W2 _ 1 _ _ _ h2
          have cr0 := cell_of_row W2 _ 0 _ _ _ h1
          have cr1 := cell_of_row W2 _ 1 _ _ _ h1
          have fp0 := frozen_of_row W2 _ 0 _ _ h2
          have fp1 := frozen_of_row W2 _ 1 _ _ h2
          simp at cp0 cp1 cr0 cr1
          have HP := hd h2
          have HR := hd h1
          have Hb := hd h3
          clear h1 h2 h3
          go_still_tail 9, (by kernel_rfl)
          change wpList _ _ _ _ _ W2.drew
          go_wp2
          all_goals
            go_roundw
            case rel =>
              refine ⟨k + 1, by omega, by go_num, ?_, ?_, (Hb.out.setCell (Nat.le_refl _) _).drew⟩
              · rw [Hr.out]
                show (W2.setCell ⟨w.heap.size, 0, none⟩ _).heap[w.heap.size]? = _
                rw [heap_setCell_same W2 _ 0 _ _ _ HP.out]
                simp
                try omega
              · rw [Hr.out]
                show (W2.setCell ⟨w.heap.size, 0, none⟩ _).heap[w.heap.size + 1]? = _
                rw [heap_setCell_other _ _ _ _ (by simp)]
                exact HR.out
            case measure => simp [intOf]; omega
      · have e : k = s.size := by omega
        subst e
        have Hl := hd (bs_len s)
        have cp0 := cell_of_row wr _ 0 _ _ _ hP
        have cp1 := cell_of_row wr _ 1 _ _ _ hP
        simp at cp0 cp1
        clear hP hR
        have Hb := hd hb
        clear hb
        go_wp2
        go_quiet (fail)
        go_wp2
        go_ret3
        rw [H.out, Hl.out]
        exact ⟨rfl, below_drewN Hb.out _⟩

set_option maxHeartbeats 2000000 in
set_option maxRecDepth 100000 in
theorem walk (w : World) (t0 : ByteArray) (y0 : t0.size ≤ maxLen) :
    Calls Try.prog 3 #[.string t0] w fun e w' => e = .returned (.bool true) ∧ Below w.heap.size w w' := by
  by_cases b0 : t0.size ≤ 1048576
  rotate_left
  · unfold maxLen at y0
    have hx' : ¬ ((t0.size : Int) ≤ 1048576) := by omega
    go_enter Try.func3, Try.ntmps3
    go_wp2
    go_ret
    exact ⟨rfl, Below.refl _ _⟩
  have hx0 : (t0.size : Int) ≤ 1048576 := by omega
  have hB := Below.refl w.heap.size w
  go_enter Try.func3, Try.ntmps3
  go_wp2_with fail
  refine (spec_any _ t0 y0).mono ?_; rintro e w1 ⟨rfl, hb⟩
  replace hB := below_tr hb hB
  clear hb
  go_wp2_with fail
  refine (impl_any _ t0 y0).mono ?_; rintro e w2 ⟨rfl, hb⟩
  replace hB := below_tr hb hB
  clear hb
  go_wp2_with fail
  go_ret
  exact ⟨rfl, hB⟩

theorem own : ownKnob Try.prog.godebug = none := by kernel_rfl
theorem laidOut : laidOutB Try.prog = true := by kernel_rfl

set_option maxRecDepth 100000 in
theorem lifted (os : Os) (started : os.Started) (H : Type) (enc : TypeId × Value → H) :
    ReturnsInHanded {} Try.checked os 3 .any (Rows.fnExactRosterRunsSpec.pre6 enc Try.prog Try.f3 Rows.fnExactRosterRunsRow.domain false) (Rows.fnExactRosterRunsSpec.post enc Try.prog Try.f3 false true false false) := by
  refine returnsInHanded_of_change (C := Try.checked) own started (by as_aux_lemma => kernel_rfl) Try.func3
    (ChangeSpec.witness6 (enc := enc) (C := Try.checked) false ⟨#[], #[.string ByteArray.empty], []⟩ 8 (by as_aux_lemma => kernel_rfl) (by as_aux_lemma => kernel_rfl) (by as_aux_lemma => kernel_rfl) (by as_aux_lemma => kernel_rfl)) ?_
  intro W base args ds gs before hval0 hW hcnd _
  have hval : ∀ (j : Nat) t v, Try.f3.params[j]? = some t → args[j]? = some v → Value.okWide Try.prog W .any base t v := hval0
  have hW' := hW
  obtain ⟨p, q, hA0, hV, rfl, hfz, hnd⟩ := hW
  have hA : DataW.TrodAll enc Try.prog W 0 (fun _ => true) true Try.f3.params.toList args.toList ds p := hA0
  rw [Try.params3] at hA hval
  obtain ⟨v0, vs0, d0, ds0, p0, q0, hargs, rfl, rfl, h0, r0⟩ := trodAll_cons hA
  obtain ⟨rfl, rfl, rfl⟩ := trodAll_nil r0
  obtain rfl : args = #[v0] := by cases args; simp_all
  obtain ⟨rfl, rfl⟩ := trodVars_none hV
  have k0 := h0
  have lt0 : ∀ x ∈ p0, x.block < W.heap.size := by obtain ⟨m, hm⟩ := k0; exact DataW.trod_lt m _ _ _ hm
  obtain ⟨a0, rfl, _, _, w0⟩ := Go.ChangeMaps.open_string Try.underlying9 (hval 0 9 v0 rfl rfl) h0
  clear hA0 hval0
  refine (walk W a0 w0).mono fun e W' ⟨he, bel⟩ => ?_
  subst he
  exact ⟨_, rfl, _, _, _, [], _, [], hW', trodAll_mk1 (shut_bool Try.underlying4 _), (trodAll_cons_mk (Below.trod laidOut (by as_aux_lemma => kernel_rfl) (of_decide_eq_true (by as_aux_lemma => kernel_rfl)) k0 bel lt0) (trodAll_mk0)), rfl, bel.frame _, fun h => by cases h⟩

/-- The given statement. -/
theorem proved : Rows.FnExactRosterRunsSaid :=
  OpenClaim.holds_of_wide 3 Try.f3 rfl rfl rfl rfl rfl rfl rfl ⟨rfl, rfl, rfl, rfl, rfl⟩ rfl rfl rfl rfl rfl (by kernel_rfl) Try.func3 (by kernel_rfl)
    (of_decide_eq_true (by kernel_rfl)) (by unfold Func.isWrapper; first | (rw [if_pos (by decide +kernel)]; kernel_rfl) | (rw [if_neg (by decide +kernel)]; exact ⟨rfl, rfl⟩))
    (fun os started H enc _ => lifted os started H enc)
#print axioms proved

end Go.Proofs.Ytcfkcahibkpjhaa.lFnExactRosterRuns
