/- Late starts and slacks: contracts of the program's functions. -/
import Derived.Test.YtaeajjfdljpioaaProD
import Derived.Test.YtaeajjfdljpioaaStepApp
namespace Go.Proofs.Ytaeajjfdljpioaa
open Go.RowKit Plain
set_option linter.unusedVariables false
set_option linter.unusedSimpArgs false
attribute [local go_sem ↓] Go.wp_at_zero Go.wp_at_succ
/-- late starts that are known -/
def LateOut (ts : List TK) (n : Nat) (e : Int) (w : World) (r : Ending) (w' : World) : Prop :=
  ∃ g, r = .returned (.tuple #[.slice (some ⟨g, 0, none⟩) n n, .bool true]) ∧ w'.ownsRow w.heap.size 2 1 (.slice (some ⟨g, 0, none⟩) n n) n ((lateL ts n e n).map vi) ∧ Below w.heap.size w w'
theorem rd_own {w : World} {base e n cap g : Nat} {s : List Int} (ho : w.ownsRow base e 1 (.slice (some ⟨g, 0, none⟩) n cap) n (s.map vi)) (n9 : n ≤ 9) : Rd w 1 (some ⟨g, 0, none⟩) n (s.map vi) := by
  obtain ⟨_, _, e9, _, hr⟩ := own_sl ho (by unfold maxLen; omega)
  cases e9
  exact hr
theorem rd_cell {w : World} {n g : Nat} {s : List Int} (hr : Rd w 1 (some ⟨g, 0, none⟩) n (s.map vi)) {k : Nat} (hk : k < n) : w.cell? ⟨g, k, none⟩ = some (.int .i64 (s.getD k 0)) := by
  obtain ⟨_, _, e0, c⟩ := hr.int hk
  cases e0
  rw [Nat.zero_add] at c
  exact c
set_option maxHeartbeats 2000000 in
theorem LateStarts_t (b o c : Nat) (ts : List TK) (n : Nat) (w : World) (h : TA w b o c ts n) (e : Int) (e0 : 0 ≤ e) (e1 : e ≤ 100000) (hk : ∀ i, i < n → eS ts n i ≤ lS ts n e i) :
    Calls Try.prog 8 #[.slice (some ⟨b, o, none⟩) n c, .int .i64 e] w (LateOut ts n e w) := by
  have HA := hd (AreTasks_any b o c ts n w h)
  have HE := hd (fun w' hb => earlyStarts_any b o c ts n w' (h.below hb))
  have HL := hd (fun w' hb => lateStarts_any b o c ts n w' (h.below hb) e e0 e1)
  have HK := hd hk
  have n9 := h.n9
  have g1 : inR e 0 100000 = true := inR_iff.2 ⟨e0, e1⟩
  clear h hk
  go_enter Try.func8, Try.ntmps8
  go_wp2_with (first
    | (go_at_call 16; refine HA.out.mono ?_; rintro e w1 ⟨rfl, hb1⟩)
    | (go_at_call 24; refine (within_t _ _ _ _ g1).mono ?_; rintro e w' ⟨rfl, hw⟩; subst w')
    | (go_at_call 22; refine (HE.out w1 hb1).mono ?_; rintro e w2 ⟨rfl, ho2, hb2⟩; have hB2 := below_tr hb2 hb1)
    | (go_at_call 25; refine (HL.out w2 hB2).mono ?_; rintro e w3 ⟨rfl, ho3, hb3⟩))
  have HB3 := hd (below_tr hb3 hB2)
  have HRE := hd ((rd_own ho2 n9).below hb3)
  have HRL := hd (rd_own ho3 n9)
  have HO3 := hd (own_mono ho3 hB2.size)
  generalize w1.heap.size = g1 at *
  generalize w2.heap.size = g2 at *
  clear hb1 ho2 hb2 hB2 ho3 hb3 HA HE HL
  go_loopw [25] (fun iv wr => ∃ k : Nat, k ≤ n ∧ iv = .int .i64 k ∧ wr = w3) (fun iv _ => n - (intOf iv).toNat)
  case atStart => exact ⟨0, by omega, rfl, rfl⟩
  case round =>
    obtain ⟨k, hk, rfl, hw⟩ := hrel
    subst wr
    by_cases hlt : k < n
    · have k2 : (k : Int) < (n : Int) := Int.ofNat_lt.2 hlt
      have cE := rd_cell HRE.out hlt
      have cL := rd_cell HRL.out hlt
      have hle := HK.out k hlt
      rw [eS, lS] at hle
      generalize (earlyL ts n n).getD k 0 = x at *
      generalize (lateL ts n e n).getD k 0 = y at *
      have hxy : ¬ y < x := by omega
      go_wp2
      go_roundw
      case rel => exact ⟨k + 1, by omega, by go_num, by first | rfl | trivial⟩
      case measure => simp [intOf]; omega
    · go_wp2
      go_ret2
      exact ⟨_, rfl, HO3.out, HB3.out⟩
set_option maxHeartbeats 2000000 in
theorem LateStarts_f (b o c : Nat) (ts : List TK) (n : Nat) (w : World) (h : TA w b o c ts n) (e : Int) (e1 : e ≤ 100000) (hk : 0 ≤ e → ∃ i, i < n ∧ lS ts n e i < eS ts n i) :
    Calls Try.prog 8 #[.slice (some ⟨b, o, none⟩) n c, .int .i64 e] w fun r w' => r = .returned (.tuple #[.slice none 0 0, .bool false]) ∧ Below w.heap.size w w' := by
  have HA := hd (AreTasks_any b o c ts n w h)
  rcases Int.lt_or_le e 0 with e0 | e0
  · have g1 : inR e 0 100000 = false := by
      cases hh : inR e 0 100000 with
      | false => rfl
      | true => have := inR_iff.1 hh; omega
    clear h hk
    go_enter Try.func8, Try.ntmps8
    go_wp2_with (first
      | (go_at_call 16; refine HA.out.mono ?_; rintro e w1 ⟨rfl, hb1⟩)
      | (go_at_call 24; refine (within_f _ _ _ _ g1).mono ?_; rintro e w' ⟨rfl, hw⟩; subst w'))
    go_ret2
    exact ⟨rfl, hb1⟩
  obtain ⟨i, hi, hlt⟩ := hk e0
  have HE := hd (fun w' hb => earlyStarts_any b o c ts n w' (h.below hb))
  have HL := hd (fun w' hb => lateStarts_any b o c ts n w' (h.below hb) e e0 e1)
  have n9 := h.n9
  have g1 : inR e 0 100000 = true := inR_iff.2 ⟨e0, e1⟩
  have HLT := hd hlt
  clear h hlt
  go_enter Try.func8, Try.ntmps8
  go_wp2_with (first
    | (go_at_call 16; refine HA.out.mono ?_; rintro e w1 ⟨rfl, hb1⟩)
    | (go_at_call 24; refine (within_t _ _ _ _ g1).mono ?_; rintro e w' ⟨rfl, hw⟩; subst w')
    | (go_at_call 22; refine (HE.out w1 hb1).mono ?_; rintro e w2 ⟨rfl, ho2, hb2⟩; have hB2 := below_tr hb2 hb1)
    | (go_at_call 25; refine (HL.out w2 hB2).mono ?_; rintro e w3 ⟨rfl, ho3, hb3⟩))
  have HB3 := hd (below_tr hb3 hB2)
  have HRE := hd ((rd_own ho2 n9).below hb3)
  have HRL := hd (rd_own ho3 n9)
  generalize w1.heap.size = g1 at *
  generalize w2.heap.size = g2 at *
  clear hb1 ho2 hb2 hB2 ho3 hb3 HA HE HL
  go_loopw [25] (fun iv wr => ∃ k : Nat, k ≤ i ∧ iv = .int .i64 k ∧ wr = w3) (fun iv _ => n - (intOf iv).toNat)
  case atStart => exact ⟨0, by omega, rfl, rfl⟩
  case round =>
    obtain ⟨k, hk, rfl, hw⟩ := hrel
    subst wr
    have hlt : k < n := by omega
    have k2 : (k : Int) < (n : Int) := Int.ofNat_lt.2 hlt
    have cE := rd_cell HRE.out hlt
    have cL := rd_cell HRL.out hlt
    have HY := hd (show k = i → (lateL ts n e n).getD k 0 < (earlyL ts n n).getD k 0 from fun e => by subst e; exact HLT.out)
    generalize (earlyL ts n n).getD k 0 = x at *
    generalize (lateL ts n e n).getD k 0 = y at *
    by_cases hxy : y < x
    · go_wp2
      go_ret2
      exact ⟨rfl, HB3.out⟩
    · have hne : k ≠ i := fun e => hxy (HY.out e)
      go_wp2
      go_roundw
      case rel => exact ⟨k + 1, by omega, by go_num, by first | rfl | trivial⟩
      case measure => simp [intOf]; omega
/-- slacks, the first k told -/
def slackL (ts : List TK) (n : Nat) (e : Int) : Nat → List Int
  | 0 => lateL ts n e n
  | k + 1 => (slackL ts n e k).set k (lS ts n e k - eS ts n k)
theorem slackL_len (ts : List TK) (n : Nat) (e : Int) (k : Nat) : (slackL ts n e k).length = n := by
  induction k with
  | zero => exact lateL_len ..
  | succ k ih => simp [slackL, ih]
theorem slackL_at (ts : List TK) (n : Nat) (e : Int) (k : Nat) (hk : k ≤ n) (j : Nat) : (slackL ts n e k).getD j 0 = if j < k then lS ts n e j - eS ts n j else lS ts n e j := by
  induction k with
  | zero => rw [if_neg (by omega)]; rfl
  | succ k ih =>
    rw [slackL, set_at _ _ _ _ (by rw [slackL_len]; omega)]
    by_cases e2 : j = k
    · subst e2; rw [if_pos rfl, if_pos (by omega)]
    · rw [if_neg e2, ih (by omega)]
      by_cases e3 : j < k
      · rw [if_pos e3, if_pos (by omega)]
      · rw [if_neg e3, if_neg (by omega)]
def SlackOut (s : List Int) (n : Nat) (mk : Value → Value) (w : World) (r : Ending) (w' : World) : Prop :=
  ∃ g, r = .returned (mk (.slice (some ⟨g, 0, none⟩) n n)) ∧ w'.ownsRow w.heap.size 2 1 (.slice (some ⟨g, 0, none⟩) n n) n (s.map vi) ∧ Below w.heap.size w w'
theorem end_bd {ts : List TK} {n : Nat} (h : TasksOk ts n) (n9 : n ≤ 9) : 0 ≤ lastF ts (eS ts n) n ∧ lastF ts (eS ts n) n ≤ 2000 := ⟨(lastF_le ..).1, lastF_bd (by omega) fun i hi => by have := eS_bd h i; have := (h i hi).a1; omega⟩
set_option maxHeartbeats 2000000 in
theorem slack_any (b o c : Nat) (ts : List TK) (n : Nat) (w : World) (h : TA w b o c ts n) :
    Calls Try.prog 26 #[.slice (some ⟨b, o, none⟩) n c] w (SlackOut (slackL ts n (lastF ts (eS ts n) n) n) n (fun v => v) w) := by
  have HE := hd (earlyStarts_any b o c ts n w h)
  have HN := hd (fun w' hb V hs => lastEnd_any b o c ts n w' (h.below hb) V (earlyL ts n n) hs)
  have EBD := end_bd h.ok h.n9
  have HL := hd (fun w' hb => lateStarts_any b o c ts n w' (h.below hb) (lastF ts (eS ts n) n) EBD.1 (by omega))
  have n9 := h.n9
  have EB := hd (fun j => early_bd h.ok n (Nat.le_refl _) j)
  have LB := hd (fun j => late_bd h.ok EBD.1 n (Nat.le_refl _) j)
  have E0 := hd (show lastF ts (fun j => (earlyL ts n n).getD j 0) n = lastF ts (eS ts n) n from rfl)
  clear h
  go_enter Try.func26, Try.ntmps26
  go_wp2_with (first
    | (go_at_call 22; refine HE.out.mono ?_; rintro e w2 ⟨rfl, ho2, hb2⟩)
    | (go_at_call 23; refine (HN.out w2 hb2 _ (starts_own ho2 n9 (fun k hk => by have := EB.out k; omega))).mono ?_; rintro e w3 ⟨rfl, hb3⟩; rw [E0.out]; have hB3 := below_tr hb3 hb2)
    | (go_at_call 25; refine (HL.out w3 hB3).mono ?_; rintro e w4 ⟨rfl, ho4, hb4⟩))
  obtain ⟨e, he⟩ : ∃ e, e = lastF ts (eS ts n) n := ⟨_, rfl⟩
  have HEQ := hd he
  rw [← he] at ho4 EBD LB
  clear he
  have HB4 := hd (below_tr hb4 hB3)
  have HRE := hd ((rd_own ho2 n9).below (below_tr hb4 hb3))
  have HO4 := hd (show w4.ownsRow w.heap.size 2 1 (.slice (some ⟨w3.heap.size, 0, none⟩) n n) n ((slackL ts n e 0).map vi) from own_mono ho4 hB3.size)
  have hne : w.heap.size ≠ w3.heap.size := by
    have h1 : w.heap.size < w2.heap.size := (World.ownsRow.lt ho2 _ rfl).2
    have h2 := hb3.size
    omega
  have HG := hd (show w.heap.size ≤ w3.heap.size from hB3.size)
  generalize w3.heap.size = g at *
  generalize hgw : w.heap.size = g0 at *
  have HGW := hd hgw
  clear hb2 ho2 hb3 hB3 ho4 hb4 HE HL HN hgw
  go_loopw [15] (fun iv wr => ∃ k : Nat, k ≤ n ∧ iv = .int .i64 k ∧ Hid (wr.ownsRow g0 2 1 (.slice (some ⟨g, 0, none⟩) n n) n ((slackL ts n e k).map vi)) ∧ Hid (Rd wr 1 (some ⟨g0, 0, none⟩) n ((earlyL ts n n).map vi)) ∧ Hid (Below g0 w wr)) (fun iv _ => n - (intOf iv).toNat)
  case atStart => exact ⟨0, by omega, rfl, HO4, HRE, HB4⟩
  case round =>
    clear HO4 HRE HB4
    obtain ⟨k, hk, rfl, HO, HR, HB⟩ := hrel
    by_cases hlt : k < n
    · have k2 : (k : Int) < (n : Int) := Int.ofNat_lt.2 hlt
      have cE := rd_cell HR.out hlt
      have cS := rd_cell (rd_own HO.out n9) hlt
      rw [slackL_at ts n e k hk, if_neg (by omega), lS] at cS
      have eb := EB.out k
      have lb := LB.out k
      have EM := hd (show ((slackL ts n e k).map vi).set k (.int .i64 ((lateL ts n e n).getD k 0 - (earlyL ts n n).getD k 0)) = (slackL ts n e (k + 1)).map vi by rw [slackL, List.map_set]; rfl)
      generalize (earlyL ts n n).getD k 0 = x at *
      generalize (lateL ts n e n).getD k 0 = y at *
      have hw1 : IntKind.i64.wrap (y - x) = y - x := IntWalk.i64_in _ (by omega)
      go_wp2_with fail
      go_still_tail 9, (by kernel_rfl)
      change wpList _ _ _ _ _ wr.drew
      have HOd := hd (show wr.drew.ownsRow g0 2 1 (.slice (some ⟨g, 0, none⟩) n n) n ((slackL ts n e k).map vi) from HO.out.drew)
      have HBd := hd (show Below g0 w wr.drew from HB.out.drew)
      have HRd := hd (show Rd wr.drew 1 (some ⟨g0, 0, none⟩) n ((earlyL ts n n).map vi) from HR.out)
      clear cE cS eb lb hw1 HO HB HR
      go_wp2_with ((with_reducible refine wpList_store_own _ g0 2 1 n n g _ HOd.out size_int k (.int .i64 (y - x)) ?_ ?_ ?_ ?_ ?_); exact rfl; exact rfl; exact rfl; omega; intro w7 ho7 hg7)
      have HO7 := hd (show w7.ownsRow g0 2 1 (.slice (some ⟨g, 0, none⟩) n n) n ((slackL ts n e (k + 1)).map vi) by rw [← EM.out]; exact ho7)
      have HB7 := hd (show Below g0 w w7 by rw [← HGW.out] at HBd HG ⊢; exact below_row hg7 HBd.out (fun k e => by cases e; exact HG.out))
      have HR7 := hd (HRd.out.grown hg7 (.inl (by simp; omega)))
      clear ho7 hg7 HOd HBd HRd
      go_roundw
      case rel => exact ⟨k + 1, by omega, by go_num, HO7, HR7, HB7⟩
      case measure => simp [intOf]; omega
    · obtain rfl : n = k := by omega
      have hg0 := HGW.out
      go_wp2
      go_ret
      subst hg0
      exact ⟨_, rfl, by rw [← HEQ.out]; exact HO.out, HB.out⟩
set_option maxHeartbeats 1000000 in
theorem SlackOf_any (b o c : Nat) (ts : List TK) (n : Nat) (w : World) (h : TA w b o c ts n) :
    Calls Try.prog 9 #[.slice (some ⟨b, o, none⟩) n c] w (SlackOut (slackL ts n (lastF ts (eS ts n) n) n) n (fun v => .tuple #[v, .bool true]) w) := by
  have HA := hd (AreTasks_any b o c ts n w h)
  have HE := hd (fun w' hb => slack_any b o c ts n w' (h.below hb))
  clear h
  go_enter Try.func9, Try.ntmps9
  go_wp2_with (first
    | (go_at_call 16; refine HA.out.mono ?_; rintro e w1 ⟨rfl, hb1⟩)
    | (go_at_call 26; refine (HE.out _ hb1).mono ?_; rintro e w2 ⟨g, rfl, ho2, hb2⟩))
  go_ret2
  exact ⟨g, rfl, own_mono ho2 hb1.size, below_tr hb2 hb1⟩
end Go.Proofs.Ytaeajjfdljpioaa
