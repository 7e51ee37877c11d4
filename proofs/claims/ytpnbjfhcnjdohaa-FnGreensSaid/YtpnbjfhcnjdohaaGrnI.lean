/- Small contracts for the law of greens: SameNumber of a number with itself, b10List of equal lists, b10Gap. -/
import Derived.Test.YtpnbjfhcnjdohaaProg
import Derived.Test.YtpnbjfhcnjdohaaFSlice
import Derived.Sort.AtCall
namespace Go.Proofs.Ytpnbjfhcnjdohaa
open Go.RowKit Plain
set_option linter.unusedVariables false
set_option linter.unusedSimpArgs false
attribute [local go_sem ↓] Go.wp_at_zero Go.wp_at_succ
theorem bits_run (x : Nat) (w : World) : (callFunc 43 #[.float .f32 x]).run Try.prog w = .ok (.value (.int .u32 x)) w := by
  rw [run_callFunc_extern (e := Extern.MathFloatBits.float32bits) Try.func43 (by kernel_rfl) (by kernel_rfl) (by kernel_rfl) (by kernel_rfl)]
  rfl
theorem l01Bits_any (x : Nat) (hx : x < 4294967296) (hn : FloatKind.f32.format.order x x = some .eq) (w : World) : Calls Try.prog 37 #[.float .f32 x] w fun r w' => r = .returned (.int .i64 x) ∧ w' = w := by
  have hb := bits_run x
  have hw : IntKind.i64.wrap (x : Int) = (x : Int) := IntWalk.i64_in _ (by omega)
  clear hx
  go_enter Try.func37, Try.ntmps37
  go_wp2
  go_ret
  exact ⟨rfl, rfl⟩
theorem same_any (x : Nat) (hx : x < 4294967296) (hn : FloatKind.f32.format.order x x = some .eq) (w : World) : Calls Try.prog 12 #[.float .f32 x, .float .f32 x] w fun r w' => r = .returned (.bool true) ∧ w' = w := by
  have H := hd (l01Bits_any x hx hn)
  have H2 : Hid (∀ w, Calls Try.prog 26 #[.float .f32 x, .float .f32 x] w fun r w' => r = .returned (.bool true) ∧ w' = w) := hd (fun w => by
    clear hx hn
    go_enter Try.func26, Try.ntmps26
    go_wp2_with (go_at_call 37; refine (H.out _).mono ?_; rintro e w' ⟨rfl, hw⟩; subst hw)
    go_ret
    exact ⟨rfl, rfl⟩)
  clear hx hn H
  go_enter Try.func12, Try.ntmps12
  go_wp2_with (go_at_call 26; refine (H2.out _).mono ?_; rintro e w' ⟨rfl, hw⟩; subst hw)
  go_ret
  exact ⟨rfl, rfl⟩
set_option maxHeartbeats 1000000 in
theorem list_any (w : World) (v u : Value) (n : Nat) (x : List Nat) (hx : ∀ k, k < n → x.getD k 0 < 4294967296 ∧ FloatKind.f32.format.order (x.getD k 0) (x.getD k 0) = some .eq) (s : Sl w 1 v n (x.map vf)) (t : Sl w 1 u n (x.map vf)) :
    Calls Try.prog 11 #[v, u] w fun r w' => r = .returned (.bool true) ∧ Below w.heap.size w w' := by
  obtain ⟨A, cap, rfl, hcap, hr⟩ := s
  obtain ⟨A', cap', rfl, hcap', hr'⟩ := t
  have hm := hr.2.1
  unfold maxLen at hm
  have HA := hd hr
  have HA' := hd hr'
  have HX := hd hx
  clear hr hr' hx
  go_enter Try.func11, Try.ntmps11
  go_wp2
  go_loopw [13] (fun i wr => ∃ k : Nat, k ≤ n ∧ i = .int .i64 k ∧ Hid (Below w.heap.size w wr)) (fun i _ => n - (intOf i).toNat)
  case atStart => exact ⟨0, by omega, rfl, hd (Below.refl _ _)⟩
  case round =>
    obtain ⟨k, hk, rfl, HB⟩ := hrel
    by_cases hlt : k < n
    · obtain ⟨b, off, rfl, hc⟩ := (HA.out.below HB.out).flt hlt
      obtain ⟨b', off', rfl, hc'⟩ := (HA'.out.below HB.out).flt hlt
      have h1 := HX.out k hlt
      have SM := same_any (x.getD k 0) h1.1 h1.2
      clear h1
      generalize x.getD k 0 = z at *
      have k2 : (k : Int) < (n : Int) := by omega
      go_wp2
      clear HX
      go_quiet ((go_at_call 12; exact Calls.quiet_of_same ((SM _).mono fun _ _ h => ⟨h.1, h.2⟩)))
      go_wp2
      go_roundw
      case rel => exact ⟨k + 1, by omega, by go_num, hd (below_drewN HB.out _)⟩
      case measure => simp [intOf]; omega
    · obtain rfl : k = n := by omega
      go_wp2
      go_ret
      exact ⟨rfl, HB.out⟩
theorem gap_lt {a b g : Nat} (ho : FloatKind.f64.format.order a b = some .lt) (hs : floatBits .sub .f64 b a = some g) (w : World) : Calls Try.prog 8 #[.float .f64 a, .float .f64 b] w fun r w' => r = .returned (.float .f64 g) ∧ w' = w := by
  have h := fun w => run_float_arith (P := Try.prog) w .sub 25 .f64 b a g hs
  clear hs
  go_enter Try.func8, Try.ntmps8
  go_wp2
  go_ret
  exact ⟨rfl, rfl⟩
theorem gap_ge {a b g : Nat} {o : Ordering} (ho : FloatKind.f64.format.order a b = some o) (hne : (o == .lt) = false) (hs : floatBits .sub .f64 a b = some g) (w : World) : Calls Try.prog 8 #[.float .f64 a, .float .f64 b] w fun r w' => r = .returned (.float .f64 g) ∧ w' = w := by
  have h := fun w => run_float_arith (P := Try.prog) w .sub 25 .f64 a b g hs
  clear hs
  cases o with
  | lt => cases hne
  | eq =>
    clear hne
    go_enter Try.func8, Try.ntmps8
    go_wp2
    go_ret
    exact ⟨rfl, rfl⟩
  | gt =>
    clear hne
    go_enter Try.func8, Try.ntmps8
    go_wp2
    go_ret
    exact ⟨rfl, rfl⟩
end Go.Proofs.Ytpnbjfhcnjdohaa
