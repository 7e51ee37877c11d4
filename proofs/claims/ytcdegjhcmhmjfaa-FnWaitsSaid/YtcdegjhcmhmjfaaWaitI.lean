/- BlockChance, WaitChance, MeanWait and StaffFor of the program: contracts. -/
import Derived.Test.YtcdegjhcmhmjfaaProg
import Derived.Test.YtcdegjhcmhmjfaaWaitCh
import Derived.Test.YtcdegjhcmhmjfaaWords
import Derived.Test.YtcdegjhcmhmjfaaSameF
import Derived.Test.YtcdegjhcmhmjfaaFloatConv
namespace Go.Proofs.Ytcdegjhcmhmjfaa
open Go.RowKit Plain
set_option linter.unusedVariables false
set_option linter.unusedSimpArgs false
attribute [local go_sem ↓] Go.wp_at_zero Go.wp_at_succ
def blockM (a : Nat) (n : Int) : Option Nat × Bool := if loadB a && inR n 1 96 then (blockF (nrm .f32 a) n.toNat, true) else (some 0, false)
set_option maxHeartbeats 1000000 in
theorem implBlock_any (w : World) (a : Nat) (n : Int) : Calls Try.prog 6 #[.float .f32 a, .int .i64 n] w (FloatOut2 (blockM a n) w) := by
  cases h1 : loadB a with
  | false =>
    have H := hd (show blockM a n = (some 0, false) by rw [blockM, h1]; rfl)
    go_enter Try.func6, Try.ntmps6
    go_wp2_with (go_at_call 11; refine (isLoad_any _ _).mono ?_; rintro e w' ⟨rfl, rfl⟩)
    go_ret2
    rw [H.out]
    exact ⟨_, rfl, nrm_zero, Below.refl _ _⟩
  | true =>
    cases h2 : inR n 1 96 with
    | false =>
      have H := hd (show blockM a n = (some 0, false) by rw [blockM, h1, h2]; rfl)
      go_enter Try.func6, Try.ntmps6
      go_wp2_with (first | (go_at_call 11; refine (isLoad_any _ _).mono ?_; rintro e w' ⟨rfl, rfl⟩) | (go_at_call 12; refine (areServers_any _ _).mono ?_; rintro e w' ⟨rfl, rfl⟩))
      go_ret2
      rw [H.out]
      exact ⟨_, rfl, nrm_zero, Below.refl _ _⟩
    | true =>
      obtain ⟨n1, n2⟩ := inR_iff.1 h2
      obtain ⟨m, rfl⟩ := Int.eq_ofNat_of_zero_le (show 0 ≤ n by omega)
      have H := hd (show blockM a m = (blockF (nrm .f32 a) m, true) by rw [blockM, h1, h2]; rfl)
      go_enter Try.func6, Try.ntmps6
      go_wp2_with (first | (go_at_call 11; refine (isLoad_any _ _).mono ?_; rintro e w' ⟨rfl, rfl⟩) | (go_at_call 12; refine (areServers_any _ _).mono ?_; rintro e w' ⟨rfl, rfl⟩) | (go_at_call 13; refine (blockChance_any _ _ _ (by omega)).mono ?_; rintro e w' ⟨b, rfl, hb, k, rfl⟩; have Hb := hd hb; clear hb))
      go_ret2
      rw [H.out]
      exact ⟨_, rfl, Hb.out, below_drewN (Below.refl _ _) _⟩

set_option maxHeartbeats 2000000 in
theorem implMean_any (w : World) (a : Nat) (wa : a < 4294967296) (n : Int) : Calls Try.prog 9 #[.float .f32 a, .int .i64 n] w (FloatOut2 (meanM a n) w) := by
  have HW := hd (fun w => implWait_any w a wa n)
  cases h1 : loadB a && (inR n 1 96 && lessB a n) with
  | false =>
    have H := hd (show meanM a n = (some 0, false) by rw [meanM, h1]; rfl)
    have HM := hd (show waitM a n = (some 0, false) by rw [waitM, h1]; rfl)
    have HW2 := hd (HM.out ▸ HW.out)
    clear wa h1 HW
    go_enter Try.func9, Try.ntmps9
    go_wp2_with (go_at_call 8; refine (HW2.out _).mono ?_; rintro e w' ⟨b, rfl, hb, hB⟩; have Hb := hd hb; clear hb)
    go_ret2
    rw [H.out]
    exact ⟨_, rfl, nrm_zero, hB⟩
  | true =>
    have h2 := h1
    simp only [Bool.and_eq_true] at h2
    obtain ⟨n1, n2⟩ := inR_iff.1 h2.2.1
    obtain ⟨m, rfl⟩ := Int.eq_ofNat_of_zero_le (show 0 ≤ n by omega)
    have H := hd (show meanM a m = (meanF (nrm .f32 a) m, true) by rw [meanM, h1]; rfl)
    have HM := hd (show waitM a m = (waitF (nrm .f32 a) m, true) by rw [waitM, h1]; rfl)
    have HW2 := hd (HM.out ▸ HW.out)
    clear wa h1 HW h2
    go_enter Try.func9, Try.ntmps9
    go_wp2_with (first
      | (go_at_call 8; refine (HW2.out _).mono ?_; rintro e w' ⟨b, rfl, hb, hB⟩; have Hb := hd hb; clear hb)
      | (refine wpList_fop _ rfl .sub _ _ _ _ rfl .f32 _ _ rfl rfl (by simp) ?_; intro r1 n1 h1; have H1 := hd h1; clear h1)
      | (refine wpList_fop _ rfl .quo _ _ _ _ rfl .f32 _ _ rfl rfl (by simp) ?_; intro r2 n2 h2; have H2 := hd h2; clear h2))
    go_ret2
    rw [H.out]
    exact ⟨_, rfl, by rw [H2.out, H1.out, show nrm .f32 b = _ from Hb.out, nrm_ofInt]; rfl, by first | exact below_drewN (below_drewN hB _) _ | exact below_drewN hB _⟩

/-- from 0 to 1 -/
def shareB (c : Nat) : Bool := (FloatKind.f32.format.order c 0 == some .gt || FloatKind.f32.format.order c 0 == some .eq) && (FloatKind.f32.format.order c 1065353216 == some .lt || FloatKind.f32.format.order c 1065353216 == some .eq)
def leF (m : Option Nat) (c : Nat) : Bool := match m with | none => false | some b => FloatKind.f32.format.order b c == some .lt || FloatKind.f32.format.order b c == some .eq
theorem le_leF {r c : Nat} {m : Option Nat} (h : nrm .f32 r = m) : (FloatKind.f32.format.order r c == some .lt || FloatKind.f32.format.order r c == some .eq) = leF m c := by
  subst h
  cases e : nrm .f32 r with
  | none => rw [order_nan (.inl (nrm_none e))]; rfl
  | some b => rw [(nrm_some e).1]; rfl
/-- m servers are enough -/
def enoughB (a c : Nat) (m : Nat) : Bool := lessB a m && leF (waitF (nrm .f32 a) m) c
/-- the least of the servers from k + 1 on that are enough, with so many tries -/
def firstFrom (a c : Nat) (k : Nat) : Nat → Int × Bool
  | 0 => (0, false)
  | t + 1 => if enoughB a c (k + 1) then ((k : Int) + 1, true) else firstFrom a c (k + 1) t
def staffM (a c : Nat) : Int × Bool := if loadB a && shareB c then firstFrom a c 0 96 else (0, false)
theorem greater_t {a m : Nat} (ha : a ≤ 1115684864) (h1 : 1 ≤ m) (h2 : m ≤ 96) (h : lessB a m = true) : FloatKind.f32.format.order (floatOfInt .f32 (m : Int)) a = some .gt := by
  have := servers_at h1 h2
  have hi := inf_single
  have hlt := of_decide_eq_true h
  rw [show FloatKind.f32.format = Ieee.single from rfl, order_rung Ieee.single (by omega) (by omega)]
  simp only [compare, compareOfLessAndEq]
  rw [if_neg (by omega), if_neg (by omega)]
theorem greater_f {a m : Nat} (ha : a ≤ 1115684864) (h1 : 1 ≤ m) (h2 : m ≤ 96) (h : lessB a m = false) : FloatKind.f32.format.order (floatOfInt .f32 (m : Int)) a = some .lt ∨ FloatKind.f32.format.order (floatOfInt .f32 (m : Int)) a = some .eq := by
  have := servers_at h1 h2
  have hi := inf_single
  have hlt := of_decide_eq_false h
  rw [show FloatKind.f32.format = Ieee.single from rfl, order_rung Ieee.single (by omega) (by omega)]
  simp only [compare, compareOfLessAndEq]
  by_cases e : floatOfInt .f32 (m : Int) = a
  · rw [if_neg (by omega), if_pos e]; exact .inr rfl
  · rw [if_pos (by omega)]; exact .inl rfl

theorem wait_at (a k : Nat) (w : World) (h : k < 96) : Calls Try.prog 14 #[.float .f32 a, .int .i64 ((k : Int) + 1)] w (FloatOut (waitF (nrm .f32 a) (k + 1)) w) := waitChance_any a (k + 1) w (by omega)
theorem first_no {a c k : Nat} (h : k < 96) (he : enoughB a c (k + 1) = false) : firstFrom a c k (96 - k) = firstFrom a c (k + 1) (96 - (k + 1)) := by
  rw [show 96 - k = (96 - (k + 1)) + 1 by omega, firstFrom, he]; rfl
theorem first_yes {a c k : Nat} (h : k < 96) (he : enoughB a c (k + 1) = true) : firstFrom a c k (96 - k) = ((k : Int) + 1, true) := by
  rw [show 96 - k = (96 - (k + 1)) + 1 by omega, firstFrom, he]; rfl
theorem enough_no {a c m : Nat} (h : lessB a m = false) : enoughB a c m = false := by rw [enoughB, h]; rfl
theorem enough_of {a c m r : Nat} (h : lessB a m = true) (hr : nrm .f32 r = waitF (nrm .f32 a) m) : enoughB a c m = (FloatKind.f32.format.order r c == some .lt || FloatKind.f32.format.order r c == some .eq) := by rw [enoughB, h, le_leF hr]; rfl

abbrev od (c z : Nat) : Option Ordering := FloatKind.f32.format.order c z
theorem share_f1 {c : Nat} (h : (!od c 0 == some Ordering.gt) = true ∧ (!od c 0 == some Ordering.eq) = true ∨ (!od c 1065353216 == some Ordering.lt) = true ∧ (!od c 1065353216 == some Ordering.eq) = true) : shareB c = false := by
  simp only [shareB]; rcases h with ⟨a, b⟩ | ⟨a, b⟩ <;> simp_all
theorem share_t {c : Nat} (h : ((!od c 0 == some Ordering.gt) = false ∨ (!od c 0 == some Ordering.eq) = false) ∧ ((!od c 1065353216 == some Ordering.lt) = false ∨ (!od c 1065353216 == some Ordering.eq) = false)) : shareB c = true := by
  simp only [shareB]; obtain ⟨a | a, b | b⟩ := h <;> simp_all
theorem share_f2 {c : Nat} (h : ¬ (od c 0 = some Ordering.gt ∨ od c 0 = some Ordering.eq)) : shareB c = false := by
  simp only [shareB]; simp_all

set_option maxHeartbeats 2000000 in
theorem implStaff_any (w : World) (a c : Nat) (wa : a < 4294967296) : Calls Try.prog 10 #[.float .f32 a, .float .f32 c] w fun r w' => r = .returned (.tuple #[.int .i64 (staffM a c).1, .bool (staffM a c).2]) ∧ Below w.heap.size w w' := by
  cases h1 : loadB a with
  | false =>
    have H := hd (show staffM a c = (0, false) by rw [staffM, h1]; rfl)
    clear wa
    go_enter Try.func10, Try.ntmps10
    go_wp2_with (go_at_call 11; refine (isLoad_any _ _).mono ?_; rintro e w' ⟨rfl, rfl⟩)
    go_ret2
    rw [H.out]
    exact ⟨rfl, Below.refl _ _⟩
  | true =>
    have ha := load_rung wa h1
    clear wa
    have HM := hd (show staffM a c = if shareB c then firstFrom a c 0 96 else (0, false) by rw [staffM, h1]; rfl)
    go_enter Try.func10, Try.ntmps10
    go_wp2_with (go_at_call 11; refine (isLoad_any _ _).mono ?_; rintro e w' ⟨rfl, rfl⟩)
    · have H : staffM a c = (0, false) := by rw [HM.out, share_f1 (by assumption)]; rfl
      clear HM
      go_ret2
      rw [H]
      exact ⟨rfl, Below.refl _ _⟩
    · have H := hd (show staffM a c = firstFrom a c 0 96 by rw [HM.out, share_t (by assumption)]; rfl)
      clear HM h1
      go_loopw [6] (fun i wr => ∃ k : Nat, k ≤ 96 ∧ i = .int .i64 ((k : Int) + 1) ∧ Hid (staffM a c = firstFrom a c k (96 - k)) ∧ ∃ n, wr = w.drewN n) (fun i _ => 97 - (intOf i).toNat)
      case atStart => exact ⟨0, by omega, rfl, H, 0, rfl⟩
      case round =>
        obtain ⟨k, hk, rfl, hM, n, rfl⟩ := hrel
        clear H
        by_cases hlt : k < 96
        · have hin : inR ((k : Int) + 1) 1 96 = true := inR_iff.2 ⟨by omega, by omega⟩
          cases h3 : lessB a (k + 1 : Nat) with
          | false =>
            have hn := first_no hlt (enough_no (c := c) h3)
            have ho := less_f ha (by omega) (by omega) h3
            have HN := hd (hM.out.trans hn)
            clear hn h3 hM
            rw [show ((k + 1 : Nat) : Int) = (k : Int) + 1 by omega] at ho
            rcases ho with ho | ho
            all_goals
              go_wp2_with (go_at_call 12; refine (areServers_any _ _).mono ?_; rintro e w' ⟨rfl, rfl⟩)
              go_roundw
              case rel => exact ⟨k + 1, by omega, by go_num, HN, _, rfl⟩
              case measure => simp [intOf]; omega
          | true =>
            have ho := less_t ha (by omega) (by omega) h3
            have HE := hd (fun r => enough_of (c := c) (r := r) h3)
            clear h3
            rw [show ((k + 1 : Nat) : Int) = (k : Int) + 1 by omega] at ho
            go_wp2_with (first
              | (go_at_call 12; refine (areServers_any _ _).mono ?_; rintro e w' ⟨rfl, rfl⟩)
              | (go_at_call 14; refine (wait_at _ _ _ hlt).mono ?_; rintro e w' ⟨b, rfl, hb, n1, rfl⟩; have Hb := hd (HE.out _ hb); clear hb))
            · go_ret2
              have he : enoughB a c (k + 1) = true := by rw [Hb.out]; exact (Bool.or_eq_true _ _).mpr (by assumption)
              rw [hM.out, first_yes hlt he]
              exact ⟨rfl, by first | exact below_drewN (Below.refl _ _) _ | exact below_drewN (below_drewN (Below.refl _ _) _) _⟩
            · have he : enoughB a c (k + 1) = false := by rw [Hb.out]; exact Bool.or_eq_false_iff.2 (by assumption)
              go_roundw
              case rel => exact ⟨k + 1, by omega, by go_num, hd (hM.out.trans (first_no hlt he)), by first | exact ⟨_, rfl⟩ | exact drew2 _ _ _⟩
              case measure => simp [intOf]; omega
        · have e : k = 96 := by omega
          subst e
          have hin : inR ((96 : Int) + 1) 1 96 = false := by decide
          go_wp2_with (go_at_call 12; refine (areServers_any _ _).mono ?_; rintro e w' ⟨rfl, rfl⟩)
          go_ret2
          rw [hM.out]
          exact ⟨rfl, below_drewN (Below.refl _ _) _⟩
    · have H : staffM a c = (0, false) := by rw [HM.out, share_f2 (by assumption)]; rfl
      clear HM
      go_ret2
      rw [H]
      exact ⟨rfl, Below.refl _ _⟩

end Go.Proofs.Ytcdegjhcmhmjfaa
