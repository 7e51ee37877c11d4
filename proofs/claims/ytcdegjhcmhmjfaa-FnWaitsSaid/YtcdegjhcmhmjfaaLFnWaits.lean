/- Whatever bytes choose the load, the servers and the chance, the program's BlockChance, WaitChance, MeanWait and StaffFor are as the law says: it returns true. No condition. -/
import Derived.Test.YtcdegjhcmhmjfaaRows
import Derived.Test.YtcdegjhcmhmjfaaWaitN
import Derived.Test.YtcdegjhcmhmjfaaOpen2
import Derived.Sort.AtCall
namespace Go.Proofs.Ytcdegjhcmhmjfaa.lFnWaits
open Go.ChangeShapes Go.WideShapes Go.ChangeAt Go.RowKit Go.Proofs.Ytcdegjhcmhmjfaa Plain
set_option linter.unusedVariables false
set_option linter.unusedSimpArgs false
attribute [local go_sem ↓] Go.wp_at_zero Go.wp_at_succ

/-- the cells of bytes -/
def bys (l : List Nat) : List Value := l.map (fun x : Nat => Value.int .u8 (x : Int))
def SomeB (w : World) (r : Ending) (w' : World) : Prop := ∃ b, r = .returned (.bool b) ∧ w' = w
def SomeN (n : Nat) (w : World) (r : Ending) (w' : World) : Prop := ∃ q : Nat, q < n ∧ r = .returned (.int .i64 q) ∧ w' = w
theorem r8Long_any (v0 v1 : Value) (x0 x1 : List Nat) (w : World) (s0 : Sl w 1 v0 x0.length (bys x0)) (s1 : Sl w 1 v1 x1.length (bys x1)) :
    Calls Try.prog 4 #[v0, v1] w (SomeB w) := by
  obtain ⟨A0, c0, rfl, h0, r0⟩ := s0
  obtain ⟨A1, c1, rfl, h1, r1⟩ := s1
  have m0 := r0.2.1
  have m1 := r1.2.1
  unfold maxLen at m0 m1
  generalize x0.length = n0 at *
  generalize x1.length = n1 at *
  clear r0 r1
  by_cases g0 : (48 : Int) < (n0 : Int) <;> by_cases g1 : (48 : Int) < (n1 : Int)
  all_goals
    go_enter Try.func4, Try.ntmps4
    go_wp2
    go_ret
    exact ⟨_, rfl, rfl⟩
theorem r8At_any (v : Value) (xs : List Nat) (hx : ∀ x ∈ xs, x < 256) (k n : Nat) (hn : 2 ≤ n) (hn2 : n ≤ 1000) (hk : k ≤ 1000) (w : World) (hs : Sl w 1 v xs.length (bys xs)) :
    Calls Try.prog 5 #[v, .int .i64 k, .int .i64 n] w (SomeN n w) := by
  obtain ⟨A, cap, rfl, hcap, hr⟩ := hs
  have hm := hr.2.1
  unfold maxLen at hm
  have g1 : ¬ ((n : Int) ≤ 1) := by omega
  by_cases hlt : k < xs.length
  · obtain ⟨b, off, rfl, hc⟩ := hr.2.2 (by omega)
    have hc2 := hc k (.int .u8 (xs[k] : Int)) (by simp [bys, hlt])
    have hb := hx _ (List.getElem_mem hlt)
    obtain ⟨y, hy⟩ : ∃ y, y = xs[k] := ⟨_, rfl⟩
    rw [← hy] at hc2 hb
    clear hc hr hy
    generalize xs.length = m at *
    have i1 : (0 : Int) ≤ (k : Int) := by omega
    have i2 : (k : Int) < (m : Int) := by omega
    have i3 : ¬ ((m : Int) ≤ (k : Int)) := by omega
    have i4 : ¬ ((n : Int) = 0) := by omega
    have Q := hd (show (y : Int).tmod (n : Int) = ((y % n : Nat) : Int) by rw [Int.tmod_eq_emod_of_nonneg (by omega)]; push_cast; rfl)
    have Q2 := hd (Nat.mod_lt y (show 0 < n by omega))
    go_enter Try.func5, Try.ntmps5
    go_wp2
    go_ret
    refine ⟨y % n, Q2.out, ?_, rfl⟩
    push_cast; rfl
  · have i3 : (xs.length : Int) ≤ (k : Int) := by omega
    clear hr
    generalize xs.length = m at *
    go_enter Try.func5, Try.ntmps5
    go_wp2
    go_ret
    exact ⟨0, by omega, rfl, rfl⟩
theorem run_max2 (ts : Array TypeId) (t : TypeId) (d e g : Nat) (w : World) (h : (match ord64 d e with
  | none => none
  | some .lt => some e
  | some .gt => some d
  | some .eq => some (if (FloatKind.f64.decode d).neg then e else d)) = some g) : (Builtin.max_ ts t #[.float .f64 d, .float .f64 e]).run Try.prog w = .ok (.float .f64 g) w := by
  simp only [Builtin.max_, List.foldlM_cons, List.foldlM_nil, Builtin.max2]
  unfold ord64 at h
  cases ho : FloatKind.f64.format.order d e with
  | none => rw [ho] at h; simp at h
  | some o =>
    rw [ho] at h
    cases o <;> simp only [Option.some.injEq] at h <;> subst h <;> simp [go_sem]
theorem r8Gap_any (x y g : Nat) (h : gapF x y = some g) (w : World) :
    Calls Try.prog 7 #[.float .f64 x, .float .f64 y] w fun r w' => r = .returned (.float .f64 g) ∧ w' = w := by
  unfold gapF at h
  simp only [Option.bind_eq_some_iff] at h
  obtain ⟨d, h1, e, h2, h3⟩ := h
  have R1 := fun (t : TypeId) w => run_float_arith (P := Try.prog) w .sub t .f64 x y d h1
  have R2 := fun (t : TypeId) w => run_float_arith (P := Try.prog) w .sub t .f64 y x e h2
  have R3 := fun ts t w => run_max2 ts t d e g w h3
  clear h1 h2 h3
  go_enter Try.func7, Try.ntmps7
  go_wp2
  go_ret
  exact ⟨rfl, rfl⟩

theorem ld_one {b c : Nat} (h : nrm .f32 b = some c) : b = c := (nrm_some h).1
theorem ld_wf {l : Nat} (hl : l < 40) : ld l < 4294967296 := by have := load_le l hl; omega
theorem block_at {l m : Nat} (n : Int) (hn : n = m) (hl : l < 40) (h1 : 1 ≤ m) (hm : m < 23) (w : World) :
    Calls Try.prog 6 #[.float .f32 (ld l), .int .i64 n] w fun r w' => r = .returned (.tuple #[.float .f32 (bk l m), .bool true]) ∧ Below w.heap.size w w' := by
  subst hn
  refine (implBlock_any w (ld l) m).mono ?_
  rintro e w' ⟨b, rfl, hb, hB⟩
  rw [blockM_yes hl h1 hm] at hb ⊢
  exact ⟨by rw [ld_one hb], hB⟩
theorem wait_yes_at {l m : Nat} (n : Int) (hn : n = m) (hl : l < 40) (h1 : 1 ≤ m) (hm : m < 23) (h : lessB (ld l) n = true) (w : World) :
    Calls Try.prog 8 #[.float .f32 (ld l), .int .i64 n] w fun r w' => r = .returned (.tuple #[.float .f32 (wt l m), .bool true]) ∧ Below w.heap.size w w' := by
  subst hn
  refine (implWait_any w (ld l) (ld_wf hl) m).mono ?_
  rintro e w' ⟨b, rfl, hb, hB⟩
  rw [waitM_yes hl h1 hm h] at hb ⊢
  exact ⟨by rw [ld_one hb], hB⟩
theorem wait_no_at {l : Nat} (n : Int) (hl : l < 40) (h : (inR n 1 96 && lessB (ld l) n) = false) (w : World) :
    Calls Try.prog 8 #[.float .f32 (ld l), .int .i64 n] w fun r w' => r = .returned (.tuple #[.float .f32 0, .bool false]) ∧ Below w.heap.size w w' := by
  refine (implWait_any w (ld l) (ld_wf hl) n).mono ?_
  rintro e w' ⟨b, rfl, hb, hB⟩
  rw [waitM_no h] at hb ⊢
  exact ⟨by rw [ld_one hb], hB⟩
theorem mean_yes_at {l m : Nat} (n : Int) (hn : n = m) (hl : l < 40) (h1 : 1 ≤ m) (hm : m < 23) (h : lessB (ld l) n = true) (w : World) :
    Calls Try.prog 9 #[.float .f32 (ld l), .int .i64 n] w fun r w' => r = .returned (.tuple #[.float .f32 (mw l m), .bool true]) ∧ Below w.heap.size w w' := by
  subst hn
  refine (implMean_any w (ld l) (ld_wf hl) m).mono ?_
  rintro e w' ⟨b, rfl, hb, hB⟩
  rw [meanM_yes hl h1 hm h] at hb ⊢
  exact ⟨by rw [ld_one hb], hB⟩
theorem mean_no_at {l : Nat} (n : Int) (hl : l < 40) (h : (inR n 1 96 && lessB (ld l) n) = false) (w : World) :
    Calls Try.prog 9 #[.float .f32 (ld l), .int .i64 n] w fun r w' => r = .returned (.tuple #[.float .f32 0, .bool false]) ∧ Below w.heap.size w w' := by
  refine (implMean_any w (ld l) (ld_wf hl) n).mono ?_
  rintro e w' ⟨b, rfl, hb, hB⟩
  rw [meanM_no h] at hb ⊢
  exact ⟨by rw [ld_one hb], hB⟩
theorem staff_at {l y : Nat} (hl : l < 40) (hy : y < 15) (w : World) :
    Calls Try.prog 10 #[.float .f32 (ld l), .float .f32 (ch y)] w fun r w' => r = .returned (.tuple #[.int .i64 (sf l y), .bool true]) ∧ Below w.heap.size w w' := by
  refine (implStaff_any w (ld l) (ch y) (ld_wf hl)).mono ?_
  rw [staff_tab hl hy]
  exact fun _ _ h => h
theorem run_cvt (b r : Nat) (h : cv b = some r) (w : World) : (convert 24 28 (.float .f32 b)).run Try.prog w = .ok (.float .f64 r) w :=
  run_convert_float_float w 24 28 .f32 .f64 b r (by rw [Try.underlying24]; rfl) Try.underlying28 h
/-- the staff for a load and a chance -/
structure Pk (a y c n e : Nat) : Prop where
  c1 : ∀ w, (binOp .quo 24 (.float .f32 (floatOfInt .f32 (1 + (y : Int)))) (.float .f32 1098907648)).run Try.prog w = .ok (.float .f32 c) w
  n1 : 1 ≤ n
  n2 : n ≤ 20
  s1 : ∀ w, Calls Try.prog 10 #[.float .f32 a, .float .f32 c] w fun r w' => r = .returned (.tuple #[.int .i64 n, .bool true]) ∧ Below w.heap.size w w'
  w1 : ∀ w, Calls Try.prog 8 #[.float .f32 a, .int .i64 n] w fun r w' => r = .returned (.tuple #[.float .f32 e, .bool true]) ∧ Below w.heap.size w w'
  g1 : (FloatKind.f32.format.order e c == some .gt) = false
  fw : (∀ w, Calls Try.prog 8 #[.float .f32 a, .int .i64 ((n : Int) - 1)] w fun r w' => r = .returned (.tuple #[.float .f32 0, .bool false]) ∧ Below w.heap.size w w') ∨ ∃ f, (FloatKind.f32.format.order f c == some .gt) = true ∧ ∀ w, Calls Try.prog 8 #[.float .f32 a, .int .i64 ((n : Int) - 1)] w fun r w' => r = .returned (.tuple #[.float .f32 f, .bool true]) ∧ Below w.heap.size w w'
theorem pk_at {l y : Nat} (hl : l < 40) (hy : y < 15) : ∃ c n e, Pk (ld l) y c n e := by
  have sl := staff_lo l hl y hy
  have en := enough_gt (staff_yes l hl y hy)
  refine ⟨ch y, sf l y, wt l (sf l y), ?_, sl.1, sl.2, fun w => staff_at hl hy w, fun w => wait_yes_at _ rfl hl sl.1 (by omega) en.1 w, en.2, ?_⟩
  · intro w
    rw [Int.add_comm]
    exact run_float_arith (P := Try.prog) w .quo 24 .f32 _ _ _ (chance_quo y hy)
  · cases h : (inR ((sf l y : Int) - 1) 1 96 && lessB (ld l) ((sf l y : Int) - 1)) with
    | false => exact .inl fun w => wait_no_at _ hl h w
    | true =>
      simp only [Bool.and_eq_true] at h
      have hi := inR_iff.1 h.1
      exact .inr ⟨wt l (sf l y - 1), fewer_gt l hl y hy h.2, fun w => wait_yes_at (m := sf l y - 1) _ (by omega) hl (by omega) (by omega) h.2 w⟩
set_option maxHeartbeats 4000000 in
set_option maxRecDepth 100000 in
theorem walk (w : World) (v0 : Value) (x0 : List Nat) (i0 : ∀ x ∈ x0, x < 256) (s0 : Sl w 1 v0 x0.length (bys x0)) (v1 : Value) (x1 : List Nat) (i1 : ∀ x ∈ x1, x < 256) (s1 : Sl w 1 v1 x1.length (bys x1)) :
    Calls Try.prog 3 #[v0, v1] w fun e w' => e = .returned (.bool true) ∧ Below w.heap.size w w' := by
  have L := hd (r8Long_any v0 v1 x0 x1 w s0 s1)
  have A1 := hd (r8At_any v1 x1 i1 40 40 (by omega) (by omega) (by omega) w s1)
  have A2 := hd (r8At_any v1 x1 i1 41 20 (by omega) (by omega) (by omega) w s1)
  have A3 := hd (fun w' h => r8At_any v1 x1 i1 42 15 (by omega) (by omega) (by omega) w' (s1.below (w := w) (w' := w') h))
  clear s0 s1 i0 i1
  have Q1 := hd (fun (l : Nat) (h : l < 40) (w : World) => (Int.add_comm (l : Int) 1) ▸ run_float_arith (P := Try.prog) w .quo 24 .f32 _ _ _ (load_quo l h))
  go_enter Try.func3, Try.ntmps3
  go_wp2_with (first
    | (go_at_call 4; refine L.out.mono ?_; rintro e w' ⟨b, rfl, hw⟩; replace hw := hw.symm; subst hw)
    | (go_at_call_has 5 (Value.int .i64 40); refine A1.out.mono ?_; rintro e w' ⟨l, hl, rfl, hw⟩; replace hw := hw.symm; subst hw; have R1 := Q1.out l hl)
    | (go_at_call_has 5 (Value.int .i64 41); refine A2.out.mono ?_; rintro e w' ⟨s, hs, rfl, hw⟩; replace hw := hw.symm; subst hw))
  · go_ret
    exact ⟨rfl, Below.refl _ _⟩
  clear R1 L A1 A2 Q1
  have B1 := hd (fun w => block_at (l := l) (1 + (s : Int)) (m := s + 1) (by omega) hl (by omega) (by omega) w)
  have B2 := hd (fun w => block_at (l := l) (1 + (s : Int) + 1) (m := s + 2) (by omega) hl (by omega) (by omega) w)
  have C1 := chk1_all l hl s hs
  rw [show (s : Int) + 2 = 1 + (s : Int) + 1 by omega] at C1
  obtain ⟨cB, cL, cA, p, q, r, g, o1⟩ := ok1_of C1
  obtain ⟨f1, f2, f3, h4, h5, h6, h7, h8, h9, h10, f11⟩ := o1
  clear C1
  have k4 := run_cvt _ _ h4
  have k5 := run_cvt _ _ h5
  have k6 := run_cvt _ _ h6
  have k7 := fun w => run_float_arith (P := Try.prog) w .mul 28 .f64 _ _ _ h7
  have k8 := fun w => run_float_arith (P := Try.prog) w .add 28 .f64 _ _ _ h8
  have k9 := fun w => run_float_arith (P := Try.prog) w .mul 28 .f64 _ _ _ h9
  have G1 := hd (r8Gap_any _ _ _ h10)
  clear h4 h5 h6 h7 h8 h9 h10
  have PK := hd (fun y (hy : y < 15) => pk_at hl hy)
  have LO := hd (less_order l hl (s + 1) (by omega))
  have e1 : ((s + 1 : Nat) : Int) = 1 + (s : Int) := by omega
  rw [e1] at LO
  clear e1
  have LN := hd (fun (h : lessB (ld l) (1 + (s : Int)) = true) => show lessB (ld l) (1 + (s : Int) + 1) = true from by
    have e1 : ((s + 1 : Nat) : Int) = 1 + (s : Int) := by omega
    have := less_next l hl (s + 1) (by omega)
    rw [e1] at this
    exact this h)
  have YW := hd (fun w h => wait_yes_at (l := l) (1 + (s : Int)) (m := s + 1) (by omega) hl (by omega) (by omega) h w)
  have YM := hd (fun w h => mean_yes_at (l := l) (1 + (s : Int)) (m := s + 1) (by omega) hl (by omega) (by omega) h w)
  have YV := hd (fun w h => wait_yes_at (l := l) (1 + (s : Int) + 1) (m := s + 2) (by omega) hl (by omega) (by omega) h w)
  have YK := hd (fun w h => mean_yes_at (l := l) (1 + (s : Int) + 1) (m := s + 2) (by omega) hl (by omega) (by omega) h w)
  have NW := hd (fun h => wait_no_at (l := l) (1 + (s : Int)) hl h)
  have NM := hd (fun h => mean_no_at (l := l) (1 + (s : Int)) hl h)
  have C2 := hd (fun h => by
    have := chk2_all l hl s hs h
    rw [show (s : Int) + 1 = 1 + (s : Int) by omega] at this
    exact ok2_of this)
  rw [show (s : Int) + 1 = 1 + (s : Int) by omega] at C2
  generalize bk l (s + 1) = A at *
  generalize bk l (s + 2) = B at *
  generalize wt l (s + 1) = W at *
  generalize wt l (s + 2) = V at *
  generalize mw l (s + 1) = M at *
  generalize mw l (s + 2) = K at *
  generalize ld l = a at *
  cases hless : lessB a (1 + (s : Int)) with
  | false =>
    have W1 := hd (NW.out (by rw [hless, Bool.and_false]))
    have M1 := hd (NM.out (by rw [hless, Bool.and_false]))
    have f12 := LO.out
    rw [hless] at f12
    clear hless
    go_wp2_with (first
      | (go_at_call_has 6 (Value.int .i64 (1 + (s : Int))); refine (B1.out _).mono ?_; rintro e w1 ⟨rfl, hb1⟩; have HB1 := hd hb1; clear hb1)
      | (go_at_call_has 6 (Value.int .i64 (1 + (s : Int) + 1)); refine (B2.out _).mono ?_; rintro e w2 ⟨rfl, hb2⟩; have HB2 := hd (below_tr hb2 HB1.out); clear hb2)
      | (go_at_call 7; refine (G1.out _).mono ?_; rintro e w' ⟨rfl, hw⟩; replace hw := hw.symm; subst hw)
      | (go_at_call 8; refine (W1.out _).mono ?_; rintro e w3 ⟨rfl, hb3⟩; have HB3 := hd (below_tr hb3 HB2.out); clear hb3)
      | (go_at_call 9; refine (M1.out _).mono ?_; rintro e w4 ⟨rfl, hb4⟩; have HB4 := hd (below_tr hb4 HB3.out); clear hb4))
    refine (A3.out _ HB4.out).mono ?_
    rintro e w' ⟨y, hy, rfl, hw⟩
    replace hw := hw.symm
    subst hw
    obtain ⟨c, n, e1, pc, pn1, pn2, ps, pw, pg, pf⟩ := PK.out y hy
    have PS := hd ps; have PW := hd pw; have PF := hd pf
    clear ps pw pf
    clear k4 k5 k6 k7 k8 k9 f1 f2 f3 f11 f12
    go_wp2_with (first
      | (go_at_call 10; refine (PS.out _).mono ?_; rintro e w5 ⟨rfl, hb5⟩; have HB5 := hd (below_tr hb5 HB4.out); clear hb5)
      | (go_at_call_has 8 (Value.int .i64 (n : Int)); refine (PW.out _).mono ?_; rintro e w6 ⟨rfl, hb6⟩; have HB6 := hd (below_tr hb6 HB5.out); clear hb6))
    rcases PF.out with pf | ⟨f, pf2, pf⟩
    · refine (pf _).mono ?_
      rintro e w7 ⟨rfl, hb7⟩
      have HB7 := hd (below_tr hb7 HB6.out)
      clear hb7
      go_wp2
      go_ret
      exact ⟨rfl, HB7.out⟩
    · refine (pf _).mono ?_
      rintro e w7 ⟨rfl, hb7⟩
      have HB7 := hd (below_tr hb7 HB6.out)
      clear hb7 pf
      go_wp2
      go_ret
      exact ⟨rfl, HB7.out⟩
  | true =>
    have f12 := LO.out
    rw [hless] at f12
    have W1 := hd (fun w => YW.out w hless)
    have M1 := hd (fun w => YM.out w hless)
    have V1 := hd (fun w => YV.out w (LN.out hless))
    have K1 := hd (fun w => YK.out w (LN.out hless))
    obtain ⟨cW, cV, cM, cK, cL', p', q', r', t', g', j1, j2, j3, j4, j5, j6, j7, j8, j9, j10, j11, j12, j13, j14, j15⟩ := C2.out hless
    clear hless
    have u2 := run_cvt _ _ j2
    have u3 := run_cvt _ _ j3
    have u4 := run_cvt _ _ j4
    have u5 := run_cvt _ _ j5
    have u6 := run_cvt _ _ j6
    have u7 := fun w => run_float_arith (P := Try.prog) w .add 28 .f64 _ _ _ j7
    have u8 := fun w => run_float_arith (P := Try.prog) w .add 28 .f64 _ _ _ j8
    have u9 := fun w => run_float_arith (P := Try.prog) w .sub 28 .f64 _ _ _ j9
    have u10 := fun w => run_float_arith (P := Try.prog) w .mul 28 .f64 _ _ _ j10
    have G2 := hd (r8Gap_any _ _ _ j11)
    obtain rfl : cL' = cL := by
      have := (k5 w).symm.trans (u6 w)
      simpa using this.symm
    clear j2 j3 j4 j5 j6 j7 j8 j9 j10 j11 u6
    go_wp2_with (first
      | (go_at_call_has 6 (Value.int .i64 (1 + (s : Int))); refine (B1.out _).mono ?_; rintro e w1 ⟨rfl, hb1⟩; have HB1 := hd hb1; clear hb1)
      | (go_at_call_has 6 (Value.int .i64 (1 + (s : Int) + 1)); refine (B2.out _).mono ?_; rintro e w2 ⟨rfl, hb2⟩; have HB2 := hd (below_tr hb2 HB1.out); clear hb2)
      | (go_at_call_has 7 (Value.float .f64 r); refine (G1.out _).mono ?_; rintro e w' ⟨rfl, hw⟩; replace hw := hw.symm; subst hw)
      | (go_at_call_has 7 (Value.float .f64 t'); refine (G2.out _).mono ?_; rintro e w' ⟨rfl, hw⟩; replace hw := hw.symm; subst hw)
      | (go_at_call_has 8 (Value.int .i64 (1 + (s : Int))); refine (W1.out _).mono ?_; rintro e w3 ⟨rfl, hb3⟩; have HB3 := hd (below_tr hb3 HB2.out); clear hb3)
      | (go_at_call_has 9 (Value.int .i64 (1 + (s : Int))); refine (M1.out _).mono ?_; rintro e w4 ⟨rfl, hb4⟩; have HB4' := hd (below_tr hb4 HB3.out); clear hb4)
      | (go_at_call_has 8 (Value.int .i64 (1 + (s : Int) + 1)); refine (V1.out _).mono ?_; rintro e w3' ⟨rfl, hb3⟩; have HB3' := hd (below_tr hb3 HB4'.out); clear hb3)
      | (go_at_call_has 9 (Value.int .i64 (1 + (s : Int) + 1)); refine (K1.out _).mono ?_; rintro e w4' ⟨rfl, hb4⟩; have HB4 := hd (below_tr hb4 HB3'.out); clear hb4))
    refine (A3.out _ HB4.out).mono ?_
    rintro e w' ⟨y, hy, rfl, hw⟩
    replace hw := hw.symm
    subst hw
    obtain ⟨c, n, e1, pc, pn1, pn2, ps, pw, pg, pf⟩ := PK.out y hy
    have PS := hd ps; have PW := hd pw; have PF := hd pf
    clear ps pw pf
    clear k4 k5 k6 k7 k8 k9 f1 f2 f3 f11 f12 u2 u3 u4 u5 u7 u8 u9 u10 j1 j12 j13 j14 j15
    go_wp2_with (first
      | (go_at_call 10; refine (PS.out _).mono ?_; rintro e w5 ⟨rfl, hb5⟩; have HB5 := hd (below_tr hb5 HB4.out); clear hb5)
      | (go_at_call_has 8 (Value.int .i64 (n : Int)); refine (PW.out _).mono ?_; rintro e w6 ⟨rfl, hb6⟩; have HB6 := hd (below_tr hb6 HB5.out); clear hb6))
    rcases PF.out with pf | ⟨f, pf2, pf⟩
    · refine (pf _).mono ?_
      rintro e w7 ⟨rfl, hb7⟩
      have HB7 := hd (below_tr hb7 HB6.out)
      clear hb7
      go_wp2
      go_ret
      exact ⟨rfl, HB7.out⟩
    · refine (pf _).mono ?_
      rintro e w7 ⟨rfl, hb7⟩
      have HB7 := hd (below_tr hb7 HB6.out)
      clear hb7 pf
      go_wp2
      go_ret
      exact ⟨rfl, HB7.out⟩

theorem own : ownKnob Try.prog.godebug = none := by kernel_rfl
theorem laidOut : laidOutB Try.prog = true := by kernel_rfl

set_option maxRecDepth 100000 in
theorem lifted (os : Os) (started : os.Started) (H : Type) (enc : TypeId × Value → H) :
    ReturnsInHanded {} Try.checked os 3 .any (Rows.fnWaitsSpec.pre6 enc Try.prog Try.f3 Rows.fnWaitsRow.domain false) (Rows.fnWaitsSpec.post enc Try.prog Try.f3 false true false false) := by
  refine returnsInHanded_of_change (C := Try.checked) own started (by as_aux_lemma => kernel_rfl) Try.func3
    (ChangeSpec.witness6 (enc := enc) (C := Try.checked) false ⟨#[], #[.slice none 0 0, .slice none 0 0], []⟩ 8 (by as_aux_lemma => kernel_rfl) (by as_aux_lemma => kernel_rfl) (by as_aux_lemma => kernel_rfl) (by as_aux_lemma => kernel_rfl)) ?_
  intro W base args ds gs before hval0 hW hcnd _
  have hval : ∀ (j : Nat) t v, Try.f3.params[j]? = some t → args[j]? = some v → Value.okWide Try.prog W .any base t v := hval0
  have hW' := hW
  obtain ⟨p, q, hA0, hV, rfl, hfz, hnd⟩ := hW
  have hA : DataW.TrodAll enc Try.prog W 0 (fun _ => true) true Try.f3.params.toList args.toList ds p := hA0
  rw [Try.params3] at hA hval
  obtain ⟨v0, vs0, d0, ds0, p0, q0, hargs, rfl, rfl, h0, r0⟩ := trodAll_cons hA
  obtain ⟨v1, vs1, d1, ds1, p1, q1, rfl, rfl, rfl, h1, r1⟩ := trodAll_cons r0
  obtain ⟨rfl, rfl, rfl⟩ := trodAll_nil r1
  obtain rfl : args = #[v0, v1] := by cases args; simp_all
  obtain ⟨rfl, rfl⟩ := trodVars_none hV
  have k0 := h0
  have lt0 : ∀ x ∈ p0, x.block < W.heap.size := by obtain ⟨m, hm⟩ := k0; exact DataW.trod_lt m _ _ _ hm
  obtain ⟨s0, len0, cap0, rfl⟩ := okWide_slice Try.underlying22 (hval 0 22 v0 rfl rfl)
  obtain ⟨x0, _, i0, w0⟩ := arg_bytes Try.underlying22 Try.underlying5 (by as_aux_lemma => kernel_rfl) h0
  have k1 := h1
  have lt1 : ∀ x ∈ p1, x.block < W.heap.size := by obtain ⟨m, hm⟩ := k1; exact DataW.trod_lt m _ _ _ hm
  obtain ⟨s1, len1, cap1, rfl⟩ := okWide_slice Try.underlying22 (hval 1 22 v1 rfl rfl)
  obtain ⟨x1, _, i1, w1⟩ := arg_bytes Try.underlying22 Try.underlying5 (by as_aux_lemma => kernel_rfl) h1
  clear hA0 hval0
  refine (walk W _ x0 i0 w0 _ x1 i1 w1).mono fun e W' ⟨he, bel⟩ => ?_
  subst he
  exact ⟨_, rfl, _, _, _, [], _, [], hW', trodAll_mk1 (shut_bool Try.underlying4 _), (trodAll_cons_mk (Below.trod laidOut (by as_aux_lemma => kernel_rfl) (of_decide_eq_true (by as_aux_lemma => kernel_rfl)) k0 bel lt0) (trodAll_cons_mk (Below.trod laidOut (by as_aux_lemma => kernel_rfl) (of_decide_eq_true (by as_aux_lemma => kernel_rfl)) k1 bel lt1) (trodAll_mk0))), rfl, bel.frame _, fun h => by cases h⟩

/-- The given statement. -/
theorem proved : Rows.FnWaitsSaid :=
  OpenClaim.holds_of_wide 3 Try.f3 rfl rfl rfl rfl rfl rfl rfl ⟨rfl, rfl, rfl, rfl, rfl⟩ rfl rfl rfl rfl rfl (by kernel_rfl) Try.func3 (by kernel_rfl)
    (of_decide_eq_true (by kernel_rfl)) (by unfold Func.isWrapper; first | (rw [if_pos (by decide +kernel)]; kernel_rfl) | (rw [if_neg (by decide +kernel)]; exact ⟨rfl, rfl⟩))
    (fun os started H enc _ => lifted os started H enc)
#print axioms proved

end Go.Proofs.Ytcdegjhcmhmjfaa.lFnWaits
