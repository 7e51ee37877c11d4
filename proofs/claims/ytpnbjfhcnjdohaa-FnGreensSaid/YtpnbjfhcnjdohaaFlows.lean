/- Flows: lists of floats that are finite and at least 0, on both sides. -/
import Derived.Test.YtpnbjfhcnjdohaaNum
import Derived.Test.YtpnbjfhcnjdohaaFSlice
import Derived.Test.YtpnbjfhcnjdohaaFin
import Derived.Test.YtpnbjfhcnjdohaaPeriods
namespace Go.Proofs.Ytpnbjfhcnjdohaa
open Go.RowKit Plain
set_option linter.unusedVariables false
set_option linter.unusedSimpArgs false
attribute [local go_sem ↓] Go.wp_at_zero Go.wp_at_succ

/-- at least 0 -/
def geB (b : Nat) : Bool := FloatKind.f32.format.order b 0 == some .gt || FloatKind.f32.format.order b 0 == some .eq
def flowsB (xs : List Nat) : Bool := decide ((1 : Int) ≤ xs.length) && (decide ((xs.length : Int) ≤ 12) && ((!xs.any fun b => !finB (nrm .f32 b)) && (!xs.any fun b => !geB b)))
/-- the sum of the first k, from +0 on -/
def sumF (xs : List Nat) : Nat → Option Nat
  | 0 => some 0
  | k + 1 => fop .add .f32 (sumF xs k) (nrm .f32 (xs.getD k 0))
theorem flows_all {xs : List Nat} : flowsB xs = true ↔ (1 ≤ xs.length ∧ xs.length ≤ 12) ∧ ∀ k, k < xs.length → finB (nrm .f32 (xs.getD k 0)) = true ∧ geB (xs.getD k 0) = true := by
  simp only [flowsB, Bool.and_eq_true, decide_eq_true_eq, Bool.not_eq_true', List.any_eq_false, Bool.not_eq_true', Bool.not_eq_false]
  constructor
  · rintro ⟨h1, h2, h3, h4⟩
    refine ⟨⟨by omega, by omega⟩, fun k hk => ?_⟩
    have hm : xs.getD k 0 ∈ xs := by rw [List.getD_eq_getElem?_getD, List.getElem?_eq_getElem hk]; exact List.getElem_mem hk
    exact ⟨h3 _ hm, h4 _ hm⟩
  · rintro ⟨⟨h1, h2⟩, h3⟩
    refine ⟨by omega, by omega, fun x hx => ?_, fun x hx => ?_⟩
    · obtain ⟨k, hk, rfl⟩ := List.getElem_of_mem hx
      have := (h3 k hk).1
      rwa [List.getD_eq_getElem?_getD, List.getElem?_eq_getElem hk] at this
    · obtain ⟨k, hk, rfl⟩ := List.getElem_of_mem hx
      have := (h3 k hk).2
      rwa [List.getD_eq_getElem?_getD, List.getElem?_eq_getElem hk] at this
theorem flows_no {xs : List Nat} {k : Nat} (hk : k < xs.length) (h : (finB (nrm .f32 (xs.getD k 0)) && geB (xs.getD k 0)) = false) : flowsB xs = false := by
  rw [Bool.eq_false_iff]
  intro hf
  have := (flows_all.1 hf).2 k hk
  rw [this.1, this.2] at h
  cases h

/-- the index of the first one that is such, or -1 -/
def SomeIdx (b : Bool) (w : World) (r : Ending) (w' : World) : Prop := ∃ n : Int, r = .returned (.int .i64 n) ∧ decide (0 ≤ n) = b ∧ -1 ≤ n ∧ n ≤ 9223372036854775807 ∧ ∃ m, w' = w.drewN m
set_option maxHeartbeats 1000000 in
theorem IndexFunc_areFinite (p : Nat → Bool) (hp : Hid (∀ b w, Calls Try.prog 34 #[.float .f32 b] w (Draws (.bool (p b)) w))) (v : Value) (xs : List Nat) (w : World) (hs : Sl w 1 v xs.length (xs.map vf)) :
    Calls Try.prog 40 #[v, .func (.func 34) #[] #[]] w (SomeIdx (xs.any p) w) := by
  obtain ⟨A, cap, rfl, hcap, hr⟩ := hs
  have hm := hr.2.1
  unfold maxLen at hm
  generalize hn : xs.length = n at *
  have Hn := hd hn
  clear hn
  go_enter Try.func40, Try.ntmps40
  go_wp2
  go_loopw [8] (fun i wr => ∃ k : Nat, k ≤ n ∧ i = .int .i64 k ∧ Hid ((xs.take k).any p = false) ∧ ∃ m, wr = w.drewN m) (fun i _ => n - (intOf i).toNat)
  case atStart => exact ⟨0, by omega, rfl, by simp [Hid], 0, rfl⟩
  case round =>
    obtain ⟨k, hk, rfl, ha, m, rfl⟩ := hrel
    by_cases hlt : k < n
    · obtain ⟨b, off, rfl, hc⟩ := hr.flt hlt
      have hl : k < xs.length := by have := Hn.out; omega
      have e1 : xs.getD k 0 = xs[k] := by simp [hl]
      have HT := hd (show (xs.take (k + 1)).any p = ((xs.take k).any p || p xs[k]) by rw [List.take_succ_eq_append_getElem hl, List.any_append]; simp)
      have HA := hd (fun h : p xs[k] = true => show xs.any p = true from List.any_eq_true.2 ⟨xs[k], List.getElem_mem _, h⟩)
      rw [e1] at hc
      generalize xs[k] = q at *
      clear hl e1 hr
      cases hq : p q with
      | true =>
        have HC := hd (fun w => hq ▸ hp.out q w)
        have HX := hd (HA.out hq)
        clear HA HT hp hq
        go_wp2_with (go_at_call 34; refine (HC.out _).mono ?_; rintro e w' ⟨rfl, m2, rfl⟩)
        go_ret
        exact ⟨k, rfl, by simp [HX.out], by omega, by omega, by first | exact ⟨_, rfl⟩ | exact drew2 _ _ _⟩
      | false =>
        have HC := hd (fun w => hq ▸ hp.out q w)
        have HX := hd (show (xs.take (k + 1)).any p = false by rw [HT.out, ha.out, hq]; rfl)
        clear HA HT hp hq
        go_wp2_with (go_at_call 34; refine (HC.out _).mono ?_; rintro e w' ⟨rfl, m2, rfl⟩)
        go_roundw
        case rel => exact ⟨k + 1, by omega, by go_num, HX, by first | exact ⟨_, rfl⟩ | exact drew2 _ _ _⟩
        case measure => simp [intOf]; omega
    · have e : k = n := by omega
      subst e
      have HX := hd (show xs.any p = false by have := ha.out; rwa [List.take_of_length_le (by have := Hn.out; omega)] at this)
      go_wp2
      go_ret
      exact ⟨-1, rfl, by rw [HX.out]; rfl, by omega, by omega, _, rfl⟩
set_option maxHeartbeats 1000000 in
theorem ContainsFunc_areFinite (p : Nat → Bool) (hp : Hid (∀ b w, Calls Try.prog 34 #[.float .f32 b] w (Draws (.bool (p b)) w))) (v : Value) (xs : List Nat) (w : World) (hs : Sl w 1 v xs.length (xs.map vf)) :
    Calls Try.prog 32 #[v, .func (.func 34) #[] #[]] w (Draws (.bool (xs.any p)) w) := by
  have HI := hd (IndexFunc_areFinite p hp v xs w hs)
  clear hp hs
  go_enter Try.func32, Try.ntmps32
  go_wp2_with (go_at_call 40; refine HI.out.mono ?_; rintro e w' ⟨n, rfl, hb, hn1, hn2, m, rfl⟩; have Hb := hd hb; clear hb)
  go_ret
  exact ⟨ret_bool Hb.out, _, rfl⟩
set_option maxHeartbeats 1000000 in
theorem IndexFunc_areFlows (p : Nat → Bool) (hp : Hid (∀ b w, Calls Try.prog 33 #[.float .f32 b] w (Draws (.bool (p b)) w))) (v : Value) (xs : List Nat) (w : World) (hs : Sl w 1 v xs.length (xs.map vf)) :
    Calls Try.prog 40 #[v, .func (.func 33) #[] #[]] w (SomeIdx (xs.any p) w) := by
  obtain ⟨A, cap, rfl, hcap, hr⟩ := hs
  have hm := hr.2.1
  unfold maxLen at hm
  generalize hn : xs.length = n at *
  have Hn := hd hn
  clear hn
  go_enter Try.func40, Try.ntmps40
  go_wp2
  go_loopw [8] (fun i wr => ∃ k : Nat, k ≤ n ∧ i = .int .i64 k ∧ Hid ((xs.take k).any p = false) ∧ ∃ m, wr = w.drewN m) (fun i _ => n - (intOf i).toNat)
  case atStart => exact ⟨0, by omega, rfl, by simp [Hid], 0, rfl⟩
  case round =>
    obtain ⟨k, hk, rfl, ha, m, rfl⟩ := hrel
    by_cases hlt : k < n
    · obtain ⟨b, off, rfl, hc⟩ := hr.flt hlt
      have hl : k < xs.length := by have := Hn.out; omega
      have e1 : xs.getD k 0 = xs[k] := by simp [hl]
      have HT := hd (show (xs.take (k + 1)).any p = ((xs.take k).any p || p xs[k]) by rw [List.take_succ_eq_append_getElem hl, List.any_append]; simp)
      have HA := hd (fun h : p xs[k] = true => show xs.any p = true from List.any_eq_true.2 ⟨xs[k], List.getElem_mem _, h⟩)
      rw [e1] at hc
      generalize xs[k] = q at *
      clear hl e1 hr
      cases hq : p q with
      | true =>
        have HC := hd (fun w => hq ▸ hp.out q w)
        have HX := hd (HA.out hq)
        clear HA HT hp hq
        go_wp2_with (go_at_call 33; refine (HC.out _).mono ?_; rintro e w' ⟨rfl, m2, rfl⟩)
        go_ret
        exact ⟨k, rfl, by simp [HX.out], by omega, by omega, by first | exact ⟨_, rfl⟩ | exact drew2 _ _ _⟩
      | false =>
        have HC := hd (fun w => hq ▸ hp.out q w)
        have HX := hd (show (xs.take (k + 1)).any p = false by rw [HT.out, ha.out, hq]; rfl)
        clear HA HT hp hq
        go_wp2_with (go_at_call 33; refine (HC.out _).mono ?_; rintro e w' ⟨rfl, m2, rfl⟩)
        go_roundw
        case rel => exact ⟨k + 1, by omega, by go_num, HX, by first | exact ⟨_, rfl⟩ | exact drew2 _ _ _⟩
        case measure => simp [intOf]; omega
    · have e : k = n := by omega
      subst e
      have HX := hd (show xs.any p = false by have := ha.out; rwa [List.take_of_length_le (by have := Hn.out; omega)] at this)
      go_wp2
      go_ret
      exact ⟨-1, rfl, by rw [HX.out]; rfl, by omega, by omega, _, rfl⟩
set_option maxHeartbeats 1000000 in
theorem ContainsFunc_areFlows (p : Nat → Bool) (hp : Hid (∀ b w, Calls Try.prog 33 #[.float .f32 b] w (Draws (.bool (p b)) w))) (v : Value) (xs : List Nat) (w : World) (hs : Sl w 1 v xs.length (xs.map vf)) :
    Calls Try.prog 32 #[v, .func (.func 33) #[] #[]] w (Draws (.bool (xs.any p)) w) := by
  have HI := hd (IndexFunc_areFlows p hp v xs w hs)
  clear hp hs
  go_enter Try.func32, Try.ntmps32
  go_wp2_with (go_at_call 40; refine HI.out.mono ?_; rintro e w' ⟨n, rfl, hb, hn1, hn2, m, rfl⟩; have Hb := hd hb; clear hb)
  go_ret
  exact ⟨ret_bool Hb.out, _, rfl⟩
theorem areFinite1_any (b : Nat) (w : World) : Calls Try.prog 34 #[.float .f32 b] w (Draws (.bool (!finB (nrm .f32 b))) w) := by
  have H := hd (IsFinite_any b)
  go_enter Try.func34, Try.ntmps34
  go_wp2_with (go_at_call 17; refine (H.out _).mono ?_; rintro e w' ⟨rfl, m, rfl⟩)
  go_ret
  exact ⟨rfl, _, rfl⟩
set_option maxHeartbeats 1000000 in
theorem areFinite_any (v : Value) (xs : List Nat) (w : World) (hs : Sl w 1 v xs.length (xs.map vf)) :
    Calls Try.prog 18 #[v] w (Draws (.bool (!xs.any fun b => !finB (nrm .f32 b))) w) := by
  have HC := hd (ContainsFunc_areFinite _ (hd areFinite1_any) v xs w hs)
  clear hs
  go_enter Try.func18, Try.ntmps18
  go_wp2_with (go_at_call 32; refine HC.out.mono ?_; rintro e w' ⟨rfl, m, rfl⟩)
  go_ret
  exact ⟨rfl, _, rfl⟩
theorem areFlows1_any (b : Nat) (w : World) : Calls Try.prog 33 #[.float .f32 b] w (Draws (.bool (!geB b)) w) := by
  go_enter Try.func33, Try.ntmps33
  go_wp2
  go_ret
  exact ⟨ret_bool (by simp [geB, Bool.not_or]), 0, rfl⟩
set_option maxHeartbeats 1000000 in
theorem areFlows_any (v : Value) (xs : List Nat) (w : World) (hs : Sl w 1 v xs.length (xs.map vf)) :
    Calls Try.prog 16 #[v] w (Draws (.bool (flowsB xs)) w) := by
  have HF := hd (areFinite_any v xs w hs)
  have HC := hd (fun w' h => ContainsFunc_areFlows _ (hd areFlows1_any) v xs w' (hs.below h))
  obtain ⟨A, cap, rfl, hcap, hr⟩ := hs
  have hm := hr.2.1
  unfold maxLen at hm
  clear hr
  by_cases h1 : (1 : Int) ≤ xs.length
  · by_cases h2 : (xs.length : Int) ≤ 12
    · cases h3 : (!xs.any fun b => !finB (nrm .f32 b)) with
      | true =>
        have H := hd (show flowsB xs = (!xs.any fun b => !geB b) by rw [flowsB, decide_eq_true h1, decide_eq_true h2, h3]; rfl)
        have HF2 := hd (h3 ▸ HF.out)
        clear HF h3
        go_enter Try.func16, Try.ntmps16
        go_wp2_with (first
          | (go_at_call 18; refine HF2.out.mono ?_; rintro e w' ⟨rfl, m, rfl⟩)
          | (go_at_call 32; refine (HC.out _ (below_drewN (Below.refl _ _) _)).mono ?_; rintro e w' ⟨rfl, m2, rfl⟩))
        go_ret
        exact ⟨ret_bool H.out.symm, by first | exact ⟨_, rfl⟩ | exact drew2 _ _ _⟩
      | false =>
        have H := hd (show flowsB xs = false by rw [flowsB, h3]; simp)
        have HF2 := hd (h3 ▸ HF.out)
        clear HF h3
        go_enter Try.func16, Try.ntmps16
        go_wp2_with (go_at_call 18; refine HF2.out.mono ?_; rintro e w' ⟨rfl, m, rfl⟩)
        go_ret
        exact ⟨ret_bool H.out.symm, _, rfl⟩
    · have H := hd (show flowsB xs = false by rw [flowsB, decide_eq_false h2]; simp)
      go_enter Try.func16, Try.ntmps16
      go_wp2
      go_ret
      exact ⟨ret_bool H.out.symm, 0, rfl⟩
  · have H := hd (show flowsB xs = false by rw [flowsB, decide_eq_false h1]; rfl)
    go_enter Try.func16, Try.ntmps16
    go_wp2
    go_ret
    exact ⟨ret_bool H.out.symm, 0, rfl⟩
/-- a number of the call, up to which NaN -/
def FloatRes (m : Option Nat) (w : World) (r : Ending) (w' : World) : Prop := ∃ b, r = .returned (.float .f32 b) ∧ nrm .f32 b = m ∧ ∃ n, w' = w.drewN n
set_option maxHeartbeats 1000000 in
theorem addUp_any (v : Value) (xs : List Nat) (w : World) (hs : Sl w 1 v xs.length (xs.map vf)) :
    Calls Try.prog 15 #[v] w (FloatRes (sumF xs xs.length) w) := by
  obtain ⟨A, cap, rfl, hcap, hr⟩ := hs
  have hm := hr.2.1
  unfold maxLen at hm
  generalize hn : xs.length = n at *
  have Hn := hd hn
  clear hn
  go_enter Try.func15, Try.ntmps15
  go_wp2
  go_loopw [3, 8] (fun s i wr => ∃ (k : Nat) (b : Nat), k ≤ n ∧ i = .int .i64 k ∧ s = .float .f32 b ∧ Hid (nrm .f32 b = sumF xs k) ∧ ∃ m, wr = w.drewN m) (fun _ i _ => n - (intOf i).toNat)
  case atStart => exact ⟨0, 0, by omega, rfl, rfl, hd (show nrm .f32 0 = some 0 from by decide), 0, rfl⟩
  case round =>
    obtain ⟨k, b0, hk, rfl, rfl, ha, m, rfl⟩ := hrel
    by_cases hlt : k < n
    · obtain ⟨b, off, rfl, hc⟩ := hr.flt hlt
      have HE := hd (show sumF xs (k + 1) = fop .add .f32 (sumF xs k) (nrm .f32 (xs.getD k 0)) from rfl)
      generalize xs.getD k 0 = q at *
      clear hr
      go_wp2_with (refine wpList_fop _ rfl .add _ _ _ _ rfl .f32 _ _ rfl rfl (by simp) ?_; intro r1 n1 h1; have H1 := hd h1; clear h1)
      go_roundw
      case rel => exact ⟨k + 1, r1, by omega, by go_num, rfl, hd (by rw [H1.out, HE.out, show nrm .f32 b0 = _ from ha.out]), by first | exact ⟨_, rfl⟩ | exact drew2 _ _ _⟩
      case measure => simp [intOf]; omega
    · have e : k = n := by omega
      subst e
      go_wp2
      go_ret
      exact ⟨_, rfl, ha.out, _, rfl⟩
set_option maxHeartbeats 1000000 in
theorem l02Least_any (a : Nat) (w : World) : Calls Try.prog 25 #[.float .f32 a] w (Draws (.bool (finB (nrm .f32 a) && geB a)) w) := by
  have HF := hd (l01Finite_any a)
  cases h : finB (nrm .f32 a) with
  | true =>
    have HF2 := hd (h ▸ HF.out)
    clear HF h
    go_enter Try.func25, Try.ntmps25
    go_wp2_with (go_at_call 36; refine (HF2.out _).mono ?_; rintro e w' ⟨rfl, m, rfl⟩)
    go_ret
    exact ⟨rfl, _, rfl⟩
  | false =>
    have HF2 := hd (h ▸ HF.out)
    clear HF h
    go_enter Try.func25, Try.ntmps25
    go_wp2_with (go_at_call 36; refine (HF2.out _).mono ?_; rintro e w' ⟨rfl, m, rfl⟩)
    go_ret
    exact ⟨rfl, _, rfl⟩
end Go.Proofs.Ytpnbjfhcnjdohaa
