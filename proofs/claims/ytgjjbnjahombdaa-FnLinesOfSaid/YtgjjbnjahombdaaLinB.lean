/- Lines: what is one, its bound, loads of stations: contracts. -/
import Derived.Test.YtgjjbnjahombdaaLinA
namespace Go.Proofs.Ytgjjbnjahombdaa
open Go.RowKit Plain
set_option linter.unusedVariables false
set_option linter.unusedSimpArgs false
attribute [local go_sem ↓] Go.wp_at_zero Go.wp_at_succ
/-- a line: times and what is before -/
structure LineP (n c : Nat) (t bf : Nat → Nat) : Prop where
  n1 : 1 ≤ n
  n12 : n ≤ 12
  t1 : ∀ i, i < n → 1 ≤ t i
  tc : ∀ i, i < n → t i ≤ c
  c1 : c ≤ 10000
  bl : ∀ i, i < n → bf i < 2 ^ i
/-- the greatest time -/
theorem maxT_any (b o cp n c : Nat) (t : Nat → Nat) (n1 : 1 ≤ n) (n12 : n ≤ 1000) (htc : ∀ i, i < n → t i ≤ c) : ∃ mx : Nat, mx ≤ c ∧ ∀ w', FA w' b o cp n (fun i => (t i : Int)) → Calls Try.prog 18 #[.slice (some ⟨b, o, none⟩) n cp] w' fun r w2 => r = .returned (.int .i64 mx) ∧ w' = w2 := by
  have key : ∀ k, k ≤ n → 0 < k → ∃ i, i < k ∧ ∀ j, j < k → t j ≤ t i := fun k => by
    induction k with
    | zero => intro _ h; omega
    | succ k ih =>
      intro hk _
      rcases Nat.eq_zero_or_pos k with e | e
      · subst e; exact ⟨0, by omega, fun j hj => by rw [show j = 0 by omega]; exact Nat.le_refl _⟩
      · obtain ⟨i, h1, h2⟩ := ih (by omega) e
        by_cases h3 : t k ≤ t i
        · exact ⟨i, by omega, fun j hj => by
            by_cases e2 : j = k
            · subst e2; exact h3
            · exact h2 j (by omega)⟩
        · exact ⟨k, by omega, fun j hj => by
            by_cases e2 : j = k
            · subst e2; exact Nat.le_refl _
            · have := h2 j (by omega); omega⟩
  obtain ⟨i, h1, h2⟩ := key n (Nat.le_refl _) n1
  refine ⟨t i, htc i h1, fun w' hf => ?_⟩
  have := slicesMax_any _ (fL n fun i => (t i : Int)) w' (hf.slf (by omega)) (by rw [fL_len]; omega)
  rw [maxTo_is (m := (t i : Int)) (fun j hj => by have := h2 j hj; omega) ⟨i, h1, rfl⟩] at this
  exact this
theorem areLine_any (b o cp n : Nat) (t : Nat → Nat) (w : World) (h : FA w b o cp n (fun i => (t i : Int))) (n1 : 1 ≤ n) (n12 : n ≤ 12) (ht : ∀ i, i < n → 1 ≤ t i ∧ t i ≤ 10000) :
    Calls Try.prog 24 #[.slice (some ⟨b, o, none⟩) n cp] w fun r w' => r = .returned (.bool true) ∧ w' = w := by
  have M := hd (areMany_any _ (fL n fun i => (t i : Int)) 1 12 1 10000 w (h.slf (by omega)))
  rw [fL_many (fun i hi => by have := ht i hi; omega) (by omega) (by omega)] at M
  clear h
  go_enter Try.func24, Try.ntmps24
  go_wp2_with (go_at_call 26; refine M.out.mono ?_; rintro e w' ⟨rfl, hw⟩; subst hw)
  go_ret
  exact ⟨rfl, rfl⟩
theorem isCycle_any (c : Nat) (c0 : 1 ≤ c) (c1 : c ≤ 10000) (w : World) :
    Calls Try.prog 17 #[.int .i64 c] w fun r w' => r = .returned (.bool true) ∧ w' = w := by
  have W := hd (fun w => within_t (c : Int) 1 10000 w (inR_iff.2 ⟨by omega, by omega⟩))
  go_enter Try.func17, Try.ntmps17
  go_wp2_with (go_at_call 27; refine (W.out _).mono ?_; rintro e w' ⟨rfl, hw⟩; replace hw := hw.symm; subst hw)
  go_ret
  exact ⟨rfl, rfl⟩
theorem shl_one (i : Nat) (hi : i < 12) : ∃ J : Nat, J = 2 ^ i ∧ (2 : Int) ^ i = (J : Int) ∧ J ≤ 2048 ∧ 1 ≤ J := by
  refine ⟨2 ^ i, rfl, by simp, ?_, Nat.pow_pos (by omega)⟩
  have : 2 ^ i ≤ 2 ^ 11 := Nat.pow_le_pow_right (by omega) (by omega)
  omega
set_option maxHeartbeats 1000000 in
theorem IsLine_any (b o cp b2 o2 cp2 n c : Nat) (t bf : Nat → Nat) (w : World) (h : FA w b o cp n (fun i => (t i : Int))) (h2 : FA w b2 o2 cp2 n (fun i => (bf i : Int))) (hp : LineP n c t bf) :
    Calls Try.prog 11 #[.slice (some ⟨b, o, none⟩) n cp, .slice (some ⟨b2, o2, none⟩) n cp2] w fun r w' => r = .returned (.bool true) ∧ w' = w := by
  have AL := hd (areLine_any b o cp n t w h hp.n1 hp.n12 (fun i hi => ⟨hp.t1 i hi, Nat.le_trans (hp.tc i hi) hp.c1⟩))
  have HF := hd h2
  have HP := hd hp
  have n12 := hp.n12
  have n1 := hp.n1
  have hne : ((n : Int) != (n : Int)) = false := by simp
  clear h h2 hp
  go_enter Try.func11, Try.ntmps11
  go_wp2_with (go_at_call 24; refine AL.out.mono ?_; rintro e w' ⟨rfl, hw⟩; replace hw := hw.symm; subst hw)
  clear hne AL
  go_loopw [19] (fun iv wr => ∃ k : Nat, k ≤ n ∧ iv = .int .i64 k ∧ wr = w) (fun iv _ => n - (intOf iv).toNat)
  case atStart => exact ⟨0, by omega, rfl, rfl⟩
  case round =>
    obtain ⟨k, hk, rfl, hw⟩ := hrel
    subst hw
    by_cases hlt : k < n
    · have k2 : (k : Int) < (n : Int) := Int.ofNat_lt.2 hlt
      have c1 := HF.out.cl k hlt
      obtain ⟨J, hJ, eJ, J1, J0⟩ := shl_one k (by omega)
      have hb := HP.out.bl k hlt
      rw [← hJ] at hb
      have hw1 : IntKind.i64.wrap (J : Int) = (J : Int) := IntWalk.i64_in _ (by omega)
      have hw2 : IntKind.i64.wrap ((J : Int) - 1) = (J : Int) - 1 := IntWalk.i64_in _ (by omega)
      generalize bf k = x at *
      have W := hd (fun w => within_t (x : Int) 0 ((J : Int) - 1) w (inR_iff.2 ⟨by omega, by omega⟩))
      have k0 : ¬ (k : Int) < 0 := by omega
      clear hJ
      go_wp2_with (go_at_call 27; refine (W.out _).mono ?_; rintro e w' ⟨rfl, hw⟩; replace hw := hw.symm; subst hw)
      go_roundw
      case rel => exact ⟨k + 1, by omega, by go_num, by first | rfl | trivial⟩
      case measure => simp [intOf]; omega
    · obtain rfl : n = k := by omega
      go_wp2
      go_ret
      exact ⟨rfl, rfl⟩
set_option maxHeartbeats 1000000 in
theorem LineBound_any (b o cp n c : Nat) (t : Nat → Nat) (w : World) (h : FA w b o cp n (fun i => (t i : Int))) (n1 : 1 ≤ n) (n12 : n ≤ 12) (ht : ∀ i, i < n → 1 ≤ t i ∧ t i ≤ 10000) (c0 : 1 ≤ c) (c1 : c ≤ 10000) :
    Calls Try.prog 9 #[.slice (some ⟨b, o, none⟩) n cp, .int .i64 c] w fun r w' => r = .returned (.tuple #[.int .i64 ((sumN t n + c - 1) / c : Nat), .bool true]) ∧ w' = w := by
  have AL := hd (areLine_any b o cp n t w h n1 n12 ht)
  have IC := hd (isCycle_any c c0 c1)
  have SM := hd (sumOf_any b o cp n _ w h (by omega) (fun i hi => by have := ht i hi; omega))
  rw [sumZ_nat] at SM
  have sb := sumZ_bd (v := fun i => (t i : Int)) (b := 10000) (by omega) (k := n) (fun i hi => by have := ht i hi; omega)
  rw [sumZ_nat] at sb
  have UP := hd (upward_any (sumN t n) c c0 (by omega) (by omega))
  generalize sumN t n = s at *
  generalize (s + c - 1) / c = q at *
  clear h ht sb
  go_enter Try.func9, Try.ntmps9
  go_wp2_with (first
    | (go_at_call 24; refine AL.out.mono ?_; rintro e w' ⟨rfl, hw⟩; replace hw := hw.symm; subst hw)
    | (go_at_call 17; refine (IC.out _).mono ?_; rintro e w' ⟨rfl, hw⟩; replace hw := hw.symm; subst hw)
    | (go_at_call 22; refine SM.out.mono ?_; rintro e w' ⟨rfl, hw⟩; replace hw := hw.symm; subst hw)
    | (go_at_call 25; refine (UP.out _).mono ?_; rintro e w' ⟨rfl, hw⟩; replace hw := hw.symm; subst hw))
  go_ret2
  exact ⟨rfl, rfl⟩
set_option maxHeartbeats 2000000 in
theorem LoadsOfLine_any (b o cp b2 o2 cp2 n K : Nat) (t A : Nat → Nat) (w : World) (h : FA w b o cp n (fun i => (t i : Int))) (h2 : FA w b2 o2 cp2 n (fun i => (A i : Int))) (n1 : 1 ≤ n) (n12 : n ≤ 12) (ht : ∀ i, i < n → 1 ≤ t i ∧ t i ≤ 10000)
    (hA : ∀ i, i < n → A i < K) (hK : ∃ i, i < n ∧ A i = K - 1) (K12 : K ≤ 12) :
    Calls Try.prog 10 #[.slice (some ⟨b, o, none⟩) n cp, .slice (some ⟨b2, o2, none⟩) n cp2] w fun r w' => (∃ g, r = .returned (.tuple #[.slice (some ⟨g, 0, none⟩) K K, .bool true]) ∧ OwnL w' w.heap.size g K K (fun s => (ldN (fun i => A i == s) t n : Int))) ∧ Below w.heap.size w w' := by
  have K1 : 1 ≤ K := by obtain ⟨i, hi, _⟩ := hK; have := hA i hi; omega
  have AL := hd (areLine_any b o cp n t w h n1 n12 ht)
  have AM := hd (areMany_any _ (fL n fun i => (A i : Int)) n n 0 11 w (h2.slf (by omega)))
  rw [fL_many (fun i hi => by have := hA i hi; omega) (by omega) (by omega)] at AM
  have MX := hd (slicesMax_any _ (fL n fun i => (A i : Int)) w (h2.slf (by omega)) (by rw [fL_len]; omega))
  rw [maxTo_is (m := ((K - 1 : Nat) : Int)) (fun i hi => by have := hA i hi; omega) (by obtain ⟨i, hi, e⟩ := hK; exact ⟨i, hi, by rw [e]⟩)] at MX
  have hwk : IntKind.i64.wrap (((K - 1 : Nat) : Int) + 1) = (K : Int) := by rw [IntWalk.i64_in _ (by omega)]; omega
  have HF := hd h
  have HA := hd h2
  have HT := hd ht
  have HAK := hd hA
  have LB := hd (fun k (hk : k ≤ n) s => (show ldN (fun i => A i == s) t k ≤ 10000 * k by
    induction k with
    | zero => simp [ldN]
    | succ k ih =>
      have h1 := ih (by omega)
      have h2 := ht k (by omega)
      rw [ldN]
      split <;> omega))
  have LS := hd (fun k s => (show ldN (fun i => A i == s) t (k + 1) = ldN (fun i => A i == s) t k + if (A k == s) = true then t k else 0 from rfl))
  have L0 := hd (fun s => (show ldN (fun i => A i == s) t 0 = 0 from rfl))
  generalize ((K - 1 : Nat) : Int) = km at *
  clear h h2 ht hA hK
  obtain ⟨ld, hld⟩ : ∃ ld : Nat → Nat → Nat, ld = fun k s => ldN (fun i => A i == s) t k := ⟨_, rfl⟩
  have LB' := hd (fun k hk s => (show ld k s ≤ 10000 * k by rw [hld]; exact LB.out k hk s))
  have LS' := hd (fun k s => (show ld (k + 1) s = ld k s + if A k = s then t k else 0 by rw [hld]; simp only; rw [LS.out]; by_cases e : A k = s <;> simp [e]))
  have L0' := hd (fun s => (show ld 0 s = 0 by rw [hld]; exact L0.out s))
  have HLD := hd hld
  clear LB LS L0 hld
  go_enter Try.func10, Try.ntmps10
  go_wp2_with (first
    | (go_at_call 24; refine AL.out.mono ?_; rintro e w' ⟨rfl, hw⟩; replace hw := hw.symm; subst hw)
    | (go_at_call 26; refine AM.out.mono ?_; rintro e w' ⟨rfl, hw⟩; subst hw)
    | (go_at_call 18; refine MX.out.mono ?_; rintro e w' ⟨rfl, hw⟩; subst hw)
    | (at_make; go_must (refine wpList_make_int _ rfl _ rfl _ _ K rfl rfl (by omega) ?_); intro w2 ho2 hb2))
  clear AL AM MX hwk
  have HO2 := hd (show OwnL w2 w.heap.size w.heap.size K K (fun s => (ld 0 s : Int)) by
    have e : fL K (fun s => (ld 0 s : Int)) = List.replicate K 0 := by rw [← fL_const]; exact fL_same fun s _ => by rw [L0'.out]; rfl
    unfold OwnL
    rw [e, List.map_replicate]; exact ho2)
  have HB2 := hd hb2
  clear ho2 hb2
  go_loopw [27] (fun iv wr => ∃ k : Nat, k ≤ n ∧ iv = .int .i64 k ∧ Hid (OwnL wr w.heap.size w.heap.size K K (fun s => (ld k s : Int))) ∧ Hid (Below w.heap.size w wr)) (fun iv _ => n - (intOf iv).toNat)
  case atStart => exact ⟨0, by omega, rfl, HO2, HB2⟩
  case round =>
    clear HO2 HB2
    obtain ⟨k, hk, rfl, HO, HB⟩ := hrel
    by_cases hlt : k < n
    · have k2 : (k : Int) < (n : Int) := Int.ofNat_lt.2 hlt
      have c1 := (HA.out.below HB.out).cl k hlt
      have c2 := (HF.out.below HB.out).cl k hlt
      have hak := HAK.out k hlt
      have ls := fun s => LS'.out k s
      have lb := LB'.out k (by omega) (A k)
      have ht := (HT.out k hlt).2
      obtain ⟨a, ha⟩ : ∃ a, a = A k := ⟨_, rfl⟩
      rw [← ha] at c1 hak lb ls
      have c3 := HO.out.at (i := a) hak
      have a2 : (a : Int) < (K : Int) := Int.ofNat_lt.2 hak
      have a0 : (0 : Int) ≤ (a : Int) := by omega
      generalize t k = tk at *
      have hw1 : IntKind.i64.wrap ((ld k a : Int) + (tk : Int)) = (ld k a : Int) + (tk : Int) := IntWalk.i64_in _ (by omega)
      have LSk := hd ls
      obtain ⟨x, hx⟩ : ∃ x, x = ld k a := ⟨_, rfl⟩
      rw [← hx] at c3 hw1
      have HXX := hd hx
      clear ls lb ht hx ha
      go_wp2_with fail
      go_still_tail 10, (by kernel_rfl)
      change wpList _ _ _ _ _ wr.drew
      have HO3 := hd (show OwnL wr.drew w.heap.size w.heap.size K K (fun s => (ld k s : Int)) from HO.out)
      go_wp2_with ((with_reducible refine wpList_store_own _ w.heap.size 2 1 K K w.heap.size _ HO3.out size_int a (.int .i64 ((x : Int) + (tk : Int))) ?_ ?_ ?_ ?_ ?_); exact rfl; exact rfl; exact rfl; omega; intro w7 ho7 hg7)
      have HO7 := hd ((OwnL.set ho7 hak).same (f' := fun s => (ld (k + 1) s : Int)) fun s _ => by
        rw [LSk.out]
        by_cases e : s = a
        · subst e; rw [if_pos rfl, if_pos rfl, HXX.out]; push_cast; rfl
        · rw [if_neg e, if_neg (fun h => e h.symm)]; rfl)
      have HB7 := hd (HB.out.drew.grown hg7 HB.out.size (fun q e => by cases e; exact Nat.le_refl _))
      clear ho7 hg7
      go_roundw
      case rel => exact ⟨k + 1, by omega, by go_num, HO7, HB7⟩
      case measure => simp [intOf]; omega
    · obtain rfl : n = k := by omega
      go_wp2
      go_ret2
      exact ⟨⟨w.heap.size, rfl, by have := HO.out; rw [HLD.out] at this; exact this⟩, HB.out⟩
end Go.Proofs.Ytgjjbnjahombdaa
