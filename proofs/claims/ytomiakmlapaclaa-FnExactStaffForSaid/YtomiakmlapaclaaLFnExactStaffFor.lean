/- Whatever load and chance are given, the program's StaffFor and the reference's return the same number and the same bool: the law returns true. No condition. -/
import Derived.Test.YtomiakmlapaclaaRows
import Derived.Test.YtomiakmlapaclaaWaitCh
import Derived.Test.YtomiakmlapaclaaWords
import Derived.Test.YtomiakmlapaclaaOpen
namespace Go.Proofs.Ytomiakmlapaclaa.lFnExactStaffFor
open Go.ChangeShapes Go.WideShapes Go.ChangeAt Go.RowKit Go.Proofs.Ytomiakmlapaclaa Plain
set_option linter.unusedVariables false
set_option linter.unusedSimpArgs false
attribute [local go_sem ↓] Go.wp_at_zero Go.wp_at_succ

/-- from 0 to 1 -/
def shareB (c : Nat) : Bool := (FloatKind.f32.format.order c 0 == some .gt || FloatKind.f32.format.order c 0 == some .eq) && (FloatKind.f32.format.order c 1065353216 == some .lt || FloatKind.f32.format.order c 1065353216 == some .eq)
def leF (m : Option Nat) (c : Nat) : Bool := match m with | none => false | some b => FloatKind.f32.format.order b c == some .lt || FloatKind.f32.format.order b c == some .eq
theorem le_leF {r c : Nat} {m : Option Nat} (h : nrm .f32 r = m) : (FloatKind.f32.format.order r c == some .lt || FloatKind.f32.format.order r c == some .eq) = leF m c := by
  subst h
  cases e : nrm .f32 r with
  | none => rw [order_nan (.inl (nrm_none e))]; rfl
  | some b => rw [(nrm_some e).1]; rfl
/-- m servers are enough -/
def enoughB (a c : Nat) (m : Nat) : Bool := lessB a m && leF (waitF (nrm .f32 a) m) c
/-- the least of the servers from k + 1 on that are enough, with so many tries -/
def firstFrom (a c : Nat) (k : Nat) : Nat → Int × Bool
  | 0 => (0, false)
  | t + 1 => if enoughB a c (k + 1) then ((k : Int) + 1, true) else firstFrom a c (k + 1) t
def M (a c : Nat) : Int × Bool := if loadB a && shareB c then firstFrom a c 0 96 else (0, false)
theorem greater_t {a m : Nat} (ha : a ≤ 1115684864) (h1 : 1 ≤ m) (h2 : m ≤ 96) (h : lessB a m = true) : FloatKind.f32.format.order (floatOfInt .f32 (m : Int)) a = some .gt := by
  have := servers_at h1 h2
  have hi := inf_single
  have hlt := of_decide_eq_true h
  rw [show FloatKind.f32.format = Ieee.single from rfl, order_rung Ieee.single (by omega) (by omega)]
  simp only [compare, compareOfLessAndEq]
  rw [if_neg (by omega), if_neg (by omega)]
theorem greater_f {a m : Nat} (ha : a ≤ 1115684864) (h1 : 1 ≤ m) (h2 : m ≤ 96) (h : lessB a m = false) : FloatKind.f32.format.order (floatOfInt .f32 (m : Int)) a = some .lt ∨ FloatKind.f32.format.order (floatOfInt .f32 (m : Int)) a = some .eq := by
  have := servers_at h1 h2
  have hi := inf_single
  have hlt := of_decide_eq_false h
  rw [show FloatKind.f32.format = Ieee.single from rfl, order_rung Ieee.single (by omega) (by omega)]
  simp only [compare, compareOfLessAndEq]
  by_cases e : floatOfInt .f32 (m : Int) = a
  · rw [if_neg (by omega), if_pos e]; exact .inr rfl
  · rw [if_pos (by omega)]; exact .inl rfl

theorem wait_at (a k : Nat) (w : World) (h : k < 96) : Calls Try.prog 37 #[.float .f32 a, .int .i64 ((k : Int) + 1)] w (FloatOut (waitF (nrm .f32 a) (k + 1)) w) := waitChance_any a (k + 1) w (by omega)
theorem specWait_at (a k : Nat) (w : World) (h : k < 96) : Calls Try.prog 39 #[.float .f32 a, .int .i64 ((k : Int) + 1)] w (FloatOut (waitF (nrm .f32 a) (k + 1)) w) := l06Wait_any a (k + 1) w (by omega)
theorem first_no {a c k : Nat} (h : k < 96) (he : enoughB a c (k + 1) = false) : firstFrom a c k (96 - k) = firstFrom a c (k + 1) (96 - (k + 1)) := by
  rw [show 96 - k = (96 - (k + 1)) + 1 by omega, firstFrom, he]; rfl
theorem first_yes {a c k : Nat} (h : k < 96) (he : enoughB a c (k + 1) = true) : firstFrom a c k (96 - k) = ((k : Int) + 1, true) := by
  rw [show 96 - k = (96 - (k + 1)) + 1 by omega, firstFrom, he]; rfl
theorem enough_no {a c m : Nat} (h : lessB a m = false) : enoughB a c m = false := by rw [enoughB, h]; rfl
theorem enough_of {a c m r : Nat} (h : lessB a m = true) (hr : nrm .f32 r = waitF (nrm .f32 a) m) : enoughB a c m = (FloatKind.f32.format.order r c == some .lt || FloatKind.f32.format.order r c == some .eq) := by rw [enoughB, h, le_leF hr]; rfl

abbrev od (c z : Nat) : Option Ordering := FloatKind.f32.format.order c z
theorem share_f1 {c : Nat} (h : (!od c 0 == some Ordering.gt) = true ∧ (!od c 0 == some Ordering.eq) = true ∨ (!od c 1065353216 == some Ordering.lt) = true ∧ (!od c 1065353216 == some Ordering.eq) = true) : shareB c = false := by
  simp only [shareB]; rcases h with ⟨a, b⟩ | ⟨a, b⟩ <;> simp_all
theorem share_t {c : Nat} (h : ((!od c 0 == some Ordering.gt) = false ∨ (!od c 0 == some Ordering.eq) = false) ∧ ((!od c 1065353216 == some Ordering.lt) = false ∨ (!od c 1065353216 == some Ordering.eq) = false)) : shareB c = true := by
  simp only [shareB]; obtain ⟨a | a, b | b⟩ := h <;> simp_all
theorem share_f2 {c : Nat} (h : ¬ (od c 0 = some Ordering.gt ∨ od c 0 = some Ordering.eq)) : shareB c = false := by
  simp only [shareB]; simp_all

set_option maxHeartbeats 2000000 in
theorem impl_any (w : World) (a c : Nat) (wa : a < 4294967296) : Calls Try.prog 26 #[.float .f32 a, .float .f32 c] w fun r w' => r = .returned (.tuple #[.int .i64 (M a c).1, .bool (M a c).2]) ∧ Below w.heap.size w w' := by
  cases h1 : loadB a with
  | false =>
    have H := hd (show M a c = (0, false) by rw [M, h1]; rfl)
    clear wa
    go_enter Try.func26, Try.ntmps26
    go_wp2_with (go_at_call 32; refine (isLoad_any _ _).mono ?_; rintro e w' ⟨rfl, rfl⟩)
    go_ret2
    rw [H.out]
    exact ⟨rfl, Below.refl _ _⟩
  | true =>
    have ha := load_rung wa h1
    clear wa
    have HM := hd (show M a c = if shareB c then firstFrom a c 0 96 else (0, false) by rw [M, h1]; rfl)
    go_enter Try.func26, Try.ntmps26
    go_wp2_with (go_at_call 32; refine (isLoad_any _ _).mono ?_; rintro e w' ⟨rfl, rfl⟩)
    · have H : M a c = (0, false) := by rw [HM.out, share_f1 (by assumption)]; rfl
      clear HM
      go_ret2
      rw [H]
      exact ⟨rfl, Below.refl _ _⟩
    · have H := hd (show M a c = firstFrom a c 0 96 by rw [HM.out, share_t (by assumption)]; rfl)
      clear HM h1
      go_loopw [6] (fun i wr => ∃ k : Nat, k ≤ 96 ∧ i = .int .i64 ((k : Int) + 1) ∧ Hid (M a c = firstFrom a c k (96 - k)) ∧ ∃ n, wr = w.drewN n) (fun i _ => 97 - (intOf i).toNat)
      case atStart => exact ⟨0, by omega, rfl, H, 0, rfl⟩
      case round =>
        obtain ⟨k, hk, rfl, hM, n, rfl⟩ := hrel
        clear H
        by_cases hlt : k < 96
        · have hin : inR ((k : Int) + 1) 1 96 = true := inR_iff.2 ⟨by omega, by omega⟩
          cases h3 : lessB a (k + 1 : Nat) with
          | false =>
            have hn := first_no hlt (enough_no (c := c) h3)
            have ho := less_f ha (by omega) (by omega) h3
            have HN := hd (hM.out.trans hn)
            clear hn h3 hM
            rw [show ((k + 1 : Nat) : Int) = (k : Int) + 1 by omega] at ho
            rcases ho with ho | ho
            all_goals
              go_wp2_with (go_at_call 33; refine (areServers_any _ _).mono ?_; rintro e w' ⟨rfl, rfl⟩)
              go_roundw
              case rel => exact ⟨k + 1, by omega, by go_num, HN, _, rfl⟩
              case measure => simp [intOf]; omega
          | true =>
            have ho := less_t ha (by omega) (by omega) h3
            have HE := hd (fun r => enough_of (c := c) (r := r) h3)
            clear h3
            rw [show ((k + 1 : Nat) : Int) = (k : Int) + 1 by omega] at ho
            go_wp2_with (first
              | (go_at_call 33; refine (areServers_any _ _).mono ?_; rintro e w' ⟨rfl, rfl⟩)
              | (go_at_call 37; refine (wait_at _ _ _ hlt).mono ?_; rintro e w' ⟨b, rfl, hb, n1, rfl⟩; have Hb := hd (HE.out _ hb); clear hb))
            · go_ret2
              have he : enoughB a c (k + 1) = true := by rw [Hb.out]; exact (Bool.or_eq_true _ _).mpr (by assumption)
              rw [hM.out, first_yes hlt he]
              exact ⟨rfl, by first | exact below_drewN (Below.refl _ _) _ | exact below_drewN (below_drewN (Below.refl _ _) _) _⟩
            · have he : enoughB a c (k + 1) = false := by rw [Hb.out]; exact Bool.or_eq_false_iff.2 (by assumption)
              go_roundw
              case rel => exact ⟨k + 1, by omega, by go_num, hd (hM.out.trans (first_no hlt he)), by first | exact ⟨_, rfl⟩ | exact drew2 _ _ _⟩
              case measure => simp [intOf]; omega
        · have e : k = 96 := by omega
          subst e
          have hin : inR ((96 : Int) + 1) 1 96 = false := by decide
          go_wp2_with (go_at_call 33; refine (areServers_any _ _).mono ?_; rintro e w' ⟨rfl, rfl⟩)
          go_ret2
          rw [hM.out]
          exact ⟨rfl, below_drewN (Below.refl _ _) _⟩
    · have H : M a c = (0, false) := by rw [HM.out, share_f2 (by assumption)]; rfl
      clear HM
      go_ret2
      rw [H]
      exact ⟨rfl, Below.refl _ _⟩

set_option maxHeartbeats 400000 in
theorem l02Share_any (c : Nat) (w : World) : Calls Try.prog 38 #[.float .f32 c] w fun r w' => r = .returned (.bool (shareB c)) ∧ w = w' := by
  go_enter Try.func38, Try.ntmps38
  go_wp2
  all_goals (go_ret; refine ⟨ret_bool ?_, rfl⟩; simp [shareB, *])

set_option maxHeartbeats 2000000 in
theorem spec_any (w : World) (a c : Nat) (wa : a < 4294967296) : Calls Try.prog 27 #[.float .f32 a, .float .f32 c] w fun r w' => r = .returned (.tuple #[.int .i64 (M a c).1, .bool (M a c).2]) ∧ Below w.heap.size w w' := by
  have hin1 : inR 1 1 96 = true := by decide
  have hL := hd (fun w => l06Load_any a 1 w)
  cases h1 : loadB a with
  | false =>
    have H := hd (show M a c = (0, false) by rw [M, h1]; rfl)
    clear wa
    go_enter Try.func27, Try.ntmps27
    go_wp2_with (go_at_call 30; refine (hL.out _).mono ?_; rintro e w' ⟨rfl, rfl⟩)
    go_ret2
    rw [H.out]
    exact ⟨rfl, Below.refl _ _⟩
  | true =>
    have ha := load_rung wa h1
    clear wa
    cases h2 : shareB c with
    | false =>
      have H := hd (show M a c = (0, false) by rw [M, h1, h2]; rfl)
      go_enter Try.func27, Try.ntmps27
      go_wp2_with (first | (go_at_call 30; refine (hL.out _).mono ?_; rintro e w' ⟨rfl, rfl⟩) | (go_at_call 38; refine (l02Share_any _ _).mono ?_; rintro e w' ⟨rfl, rfl⟩))
      go_ret2
      rw [H.out]
      exact ⟨rfl, Below.refl _ _⟩
    | true =>
      have H := hd (show M a c = firstFrom a c 0 96 by rw [M, h1, h2]; rfl)
      go_enter Try.func27, Try.ntmps27
      go_wp2_with (first | (go_at_call 30; refine (hL.out _).mono ?_; rintro e w' ⟨rfl, rfl⟩) | (go_at_call 38; refine (l02Share_any _ _).mono ?_; rintro e w' ⟨rfl, rfl⟩))
      go_loopw [6] (fun i wr => ∃ k : Nat, k ≤ 96 ∧ i = .int .i64 ((k : Int) + 1) ∧ Hid (M a c = firstFrom a c k (96 - k)) ∧ ∃ n, wr = w.drewN n) (fun i _ => 97 - (intOf i).toNat)
      case atStart => exact ⟨0, by omega, rfl, H, 0, rfl⟩
      case round =>
        obtain ⟨k, hk, rfl, hM, n, rfl⟩ := hrel
        clear H
        by_cases hlt : k < 96
        · have hle : (k : Int) + 1 ≤ 96 := by omega
          cases h3 : lessB a (k + 1 : Nat) with
          | false =>
            have hn := first_no hlt (enough_no (c := c) h3)
            have ho := greater_f ha (by omega) (by omega) h3
            have HN := hd (hM.out.trans hn)
            clear hn h3 hM
            rw [show ((k + 1 : Nat) : Int) = (k : Int) + 1 by omega] at ho
            rcases ho with ho | ho
            all_goals
              go_wp2
              go_roundw
              case rel => exact ⟨k + 1, by omega, by go_num, HN, _, rfl⟩
              case measure => simp [intOf]; omega
          | true =>
            have ho := greater_t ha (by omega) (by omega) h3
            have HE := hd (fun r => enough_of (c := c) (r := r) h3)
            clear h3
            rw [show ((k + 1 : Nat) : Int) = (k : Int) + 1 by omega] at ho
            go_wp2_with (go_at_call 39; refine (specWait_at _ _ _ hlt).mono ?_; rintro e w' ⟨b, rfl, hb, n1, rfl⟩; have Hb := hd (HE.out _ hb); clear hb)
            · go_ret2
              have he : enoughB a c (k + 1) = true := by rw [Hb.out]; exact (Bool.or_eq_true _ _).mpr (by assumption)
              rw [hM.out, first_yes hlt he]
              exact ⟨rfl, by first | exact below_drewN (Below.refl _ _) _ | exact below_drewN (below_drewN (Below.refl _ _) _) _⟩
            · have he : enoughB a c (k + 1) = false := by rw [Hb.out]; exact Bool.or_eq_false_iff.2 (by assumption)
              go_roundw
              case rel => exact ⟨k + 1, by omega, by go_num, hd (hM.out.trans (first_no hlt he)), by first | exact ⟨_, rfl⟩ | exact drew2 _ _ _⟩
              case measure => simp [intOf]; omega
        · have e : k = 96 := by omega
          subst e
          go_wp2
          go_ret2
          rw [hM.out]
          exact ⟨rfl, below_drewN (Below.refl _ _) _⟩

theorem wf32 {a : Nat} (h : (Lit.float .f32 a).wf = true) : a < 4294967296 := by simpa [Lit.wf] using h
set_option maxHeartbeats 1000000 in
theorem walk (w : World) (a : Nat) (wa : (Lit.float .f32 a).wf = true) (c : Nat) (wc : (Lit.float .f32 c).wf = true) :
    Calls Try.prog 8 #[.float .f32 a, .float .f32 c] w fun e w' => e = .returned (.bool true) ∧ Below w.heap.size w w' := by
  have hs := hd (fun w => spec_any w a c (wf32 wa))
  have hi := hd (fun w => impl_any w a c (wf32 wa))
  clear wa wc
  go_enter Try.func8, Try.ntmps8
  go_wp2_with fail
  refine (hs.out _).mono ?_; rintro e w1 ⟨rfl, hb1⟩
  go_wp2_with fail
  refine (hi.out _).mono ?_; rintro e w2 ⟨rfl, hb2⟩
  have hB := below_tr hb2 hb1
  clear hb1 hb2
  go_wp2
  go_ret
  exact ⟨rfl, hB⟩

theorem own : ownKnob Try.prog.godebug = none := by kernel_rfl
theorem laidOut : laidOutB Try.prog = true := by kernel_rfl

set_option maxRecDepth 100000 in
theorem lifted (os : Os) (started : os.Started) (H : Type) (enc : TypeId × Value → H) :
    ReturnsInHanded {} Try.checked os 8 .any (Rows.fnExactStaffForSpec.pre6 enc Try.prog Try.f8 Rows.fnExactStaffForRow.domain false) (Rows.fnExactStaffForSpec.post enc Try.prog Try.f8 false true false false) := by
  refine returnsInHanded_of_change (C := Try.checked) own started (by as_aux_lemma => kernel_rfl) Try.func8
    (ChangeSpec.witness6 (enc := enc) (C := Try.checked) false ⟨#[], #[.float .f32 0, .float .f32 0], []⟩ 8 (by as_aux_lemma => kernel_rfl) (by as_aux_lemma => kernel_rfl) (by as_aux_lemma => kernel_rfl) (by as_aux_lemma => kernel_rfl)) ?_
  intro W base args ds gs before hval0 hW hcnd _
  have hval : ∀ (j : Nat) t v, Try.f8.params[j]? = some t → args[j]? = some v → Value.okWide Try.prog W .any base t v := hval0
  have hW' := hW
  obtain ⟨p, q, hA0, hV, rfl, hfz, hnd⟩ := hW
  have hA : DataW.TrodAll enc Try.prog W 0 (fun _ => true) true Try.f8.params.toList args.toList ds p := hA0
  rw [Try.params8] at hA hval
  obtain ⟨v0, vs0, d0, ds0, p0, q0, hargs, rfl, rfl, h0, r0⟩ := trodAll_cons hA
  obtain ⟨v1, vs1, d1, ds1, p1, q1, rfl, rfl, rfl, h1, r1⟩ := trodAll_cons r0
  obtain ⟨rfl, rfl, rfl⟩ := trodAll_nil r1
  obtain rfl : args = #[v0, v1] := by cases args; simp_all
  obtain ⟨rfl, rfl⟩ := trodVars_none hV
  have k0 := h0
  have lt0 : ∀ x ∈ p0, x.block < W.heap.size := by obtain ⟨m, hm⟩ := k0; exact DataW.trod_lt m _ _ _ hm
  obtain ⟨a0, rfl, _, _, w0⟩ := open_float Try.underlying30 (hval 0 30 v0 rfl rfl) h0
  have k1 := h1
  have lt1 : ∀ x ∈ p1, x.block < W.heap.size := by obtain ⟨m, hm⟩ := k1; exact DataW.trod_lt m _ _ _ hm
  obtain ⟨a1, rfl, _, _, w1⟩ := open_float Try.underlying30 (hval 1 30 v1 rfl rfl) h1
  clear hA0 hval0
  refine (walk W a0 w0 a1 w1).mono fun e W' ⟨he, bel⟩ => ?_
  subst he
  exact ⟨_, rfl, _, _, _, [], _, [], hW', trodAll_mk1 (shut_bool Try.underlying4 _), (trodAll_cons_mk (Below.trod laidOut (by as_aux_lemma => kernel_rfl) (of_decide_eq_true (by as_aux_lemma => kernel_rfl)) k0 bel lt0) (trodAll_cons_mk (Below.trod laidOut (by as_aux_lemma => kernel_rfl) (of_decide_eq_true (by as_aux_lemma => kernel_rfl)) k1 bel lt1) (trodAll_mk0))), rfl, bel.frame _, fun h => by cases h⟩

/-- The given statement. -/
theorem proved : Rows.FnExactStaffForSaid :=
  OpenClaim.holds_of_wide 8 Try.f8 rfl rfl rfl rfl rfl rfl rfl ⟨rfl, rfl, rfl, rfl, rfl⟩ rfl rfl rfl rfl rfl (by kernel_rfl) Try.func8 (by kernel_rfl)
    (of_decide_eq_true (by kernel_rfl)) (by unfold Func.isWrapper; first | (rw [if_pos (by decide +kernel)]; kernel_rfl) | (rw [if_neg (by decide +kernel)]; exact ⟨rfl, rfl⟩))
    (fun os started H enc _ => lifted os started H enc)
#print axioms proved

end Go.Proofs.Ytomiakmlapaclaa.lFnExactStaffFor
