/- Valid tasks are told to be valid by the reference, too. -/
import Derived.Test.YtdbojkanelmlkaaProG
namespace Go.Proofs.Ytdbojkanelmlkaa
open Go.RowKit Plain
set_option linter.unusedVariables false
set_option linter.unusedSimpArgs false
attribute [local go_sem ↓] Go.wp_at_zero Go.wp_at_succ
theorem quiet_in {w : World} {q n a b : Int} {k : Nat} (h : inR n a b = true) : Calls Try.prog 24 #[.int .i64 n, .int .i64 a, .int .i64 b] (w.drewN k) fun r w' => r = .returned (.bool true) ∧ ∃ m, w' = w.drewN m :=
  (l00In_t n a b _ h).mono fun _ _ h => ⟨h.1, k, h.2⟩
set_option maxHeartbeats 4000000 in
theorem l03Task_any (b p : Nat) (t : TK) (i : Nat) (hi : i ≤ 9) (w : World) (h : TCell w b p t) (OK : TaskOk i t) :
    Calls Try.prog 38 #[.pointer (some ⟨b, p, none⟩), .int .i64 i] w (Draws (.bool true) w) := by
  obtain ⟨Ab, cb, Al, cl, c0, c1, c2, c3, hb, hl, hcb, hcl⟩ := h
  have OK := hd OK
  have g1 : inR t.a 0 100 = true := inR_iff.2 ⟨OK.out.a0, OK.out.a1⟩
  have g2 : inR t.b 0 20 = true := inR_iff.2 ⟨OK.out.b0, OK.out.b1⟩
  have hsh := OK.out.short
  obtain ⟨m, hm⟩ : ∃ m, m = t.bf.length := ⟨_, rfl⟩
  have HM := hd hm
  rw [← hm] at c2 c3 hb hl hsh
  generalize t.a = ta at *
  generalize t.b = tb at *
  have RB := hd hb
  have RL := hd hl
  have Q1 := hd (fun (w' : World) => l00In_t ta 0 100 w' g1)
  have Q2 := hd (fun (w' : World) => l00In_t tb 0 20 w' g2)
  clear hm hb hl hcb hcl g1 g2
  have hmm : ((m : Int) != (m : Int)) = false := by simp
  go_enter Try.func38, Try.ntmps38
  go_wp2_with fail
  go_quiet (first
    | (go_at_call_has 24 (Value.int .i64 ta); exact (Q1.out _).mono fun _ _ h => by (obtain ⟨h1, h2⟩ := h; refine ⟨h1, ?_⟩; rw [h2]; first | exact ⟨_, rfl⟩ | (rw [World.drewN_drewN]; exact ⟨_, rfl⟩)))
    | (go_at_call_has 24 (Value.int .i64 tb); exact (Q2.out _).mono fun _ _ h => by (obtain ⟨h1, h2⟩ := h; refine ⟨h1, ?_⟩; rw [h2]; first | exact ⟨_, rfl⟩ | (rw [World.drewN_drewN]; exact ⟨_, rfl⟩))))
  clear c0 c1 hmm Q1 Q2
  go_wp2
  go_loopw [38] (fun iv wr => ∃ k q : Nat, k ≤ m ∧ iv = .int .i64 k ∧ wr = w.drewN q) (fun iv _ => m - (intOf iv).toNat)
  case atStart => exact ⟨0, nq, by omega, rfl, rfl⟩
  case round =>
    obtain ⟨k, q, hk, rfl, hw⟩ := hrel
    subst hw
    by_cases hkm : k < m
    · have k2 : (k : Int) < (m : Int) := Int.ofNat_lt.2 hkm
      have hkl : k < t.bf.length := by have := HM.out; omega
      obtain ⟨bb, ob, rfl, cb'⟩ := RB.out.int hkm
      obtain ⟨bl, ol, rfl, cl'⟩ := RL.out.int hkm
      have p0 := OK.out.p0 k hkl
      have l0 := OK.out.l0 k hkl
      have g3 : inR (t.bf.getD k 0) 0 ((i : Int) - 1) = true := inR_iff.2 ⟨by omega, by omega⟩
      have g4 : inR (t.lg.getD k 0) (-100) 100 = true := inR_iff.2 l0
      have Q3 := hd (fun (w' : World) => l00In_t (t.bf.getD k 0) 0 ((i : Int) - 1) w' g3)
      have Q4 := hd (fun (w' : World) => l00In_t (t.lg.getD k 0) (-100) 100 w' g4)
      have hwi : IntKind.i64.wrap ((i : Int) - 1) = (i : Int) - 1 := IntWalk.i64_in _ (by omega)
      rcases Nat.eq_zero_or_pos k with k0 | k0
      · subst k0
        rw [Nat.add_zero] at cb' cl'
        generalize t.bf.getD 0 0 = x at *
        generalize t.lg.getD 0 0 = y at *
        clear p0 l0 hkl g3 g4
        go_wp2_with fail
        go_quiet (first
          | (go_at_call_has 24 (Value.int .i64 x); exact (Q3.out _).mono fun _ _ h => by (obtain ⟨h1, h2⟩ := h; refine ⟨h1, ?_⟩; rw [h2]; first | exact ⟨_, rfl⟩ | (rw [World.drewN_drewN]; exact ⟨_, rfl⟩)))
          | (go_at_call_has 24 (Value.int .i64 y); exact (Q4.out _).mono fun _ _ h => by (obtain ⟨h1, h2⟩ := h; refine ⟨h1, ?_⟩; rw [h2]; first | exact ⟨_, rfl⟩ | (rw [World.drewN_drewN]; exact ⟨_, rfl⟩))))
        clear cb' cl' hwi Q3 Q4
        go_wp2
        go_roundw
        case rel => exact ⟨1, q + nq, by omega, by first | rfl | go_num, by first | rfl | rw [World.drewN_drewN]⟩
        case measure => simp [intOf]; omega
      · obtain ⟨kk, hkk⟩ : ∃ kk, k = kk + 1 := ⟨k - 1, by omega⟩
        have hwk : IntKind.i64.wrap ((k : Int) - 1) = (kk : Int) := by rw [IntWalk.i64_in _ (by omega)]; omega
        obtain ⟨_, _, e0, cb2⟩ := RB.out.int (show kk < m by omega)
        cases e0
        have hup := OK.out.up kk (by omega)
        rw [← hkk] at hup
        have hkk2 : (kk : Int) < (m : Int) := by omega
        have hk0 : (0 : Int) < (k : Int) := by omega
        generalize t.bf.getD k 0 = x at *
        generalize t.lg.getD k 0 = y at *
        generalize t.bf.getD kk 0 = z at *
        have hxz : ¬ x ≤ z := by omega
        have hxz2 : decide (x ≤ z) = false := decide_eq_false hxz
        have hk02 : decide ((0 : Int) < (k : Int)) = true := decide_eq_true hk0
        clear p0 l0 hkl g3 g4 hup
        have HKK := hd hkk
        clear hkk
        go_wp2_with fail
        go_quiet (first
          | (go_at_call_has 24 (Value.int .i64 x); exact (Q3.out _).mono fun _ _ h => by (obtain ⟨h1, h2⟩ := h; refine ⟨h1, ?_⟩; rw [h2]; first | exact ⟨_, rfl⟩ | (rw [World.drewN_drewN]; exact ⟨_, rfl⟩)))
          | (go_at_call_has 24 (Value.int .i64 y); exact (Q4.out _).mono fun _ _ h => by (obtain ⟨h1, h2⟩ := h; refine ⟨h1, ?_⟩; rw [h2]; first | exact ⟨_, rfl⟩ | (rw [World.drewN_drewN]; exact ⟨_, rfl⟩))))
        clear cb' cl' hwi Q3 Q4 cb2 hwk hkk2 hk0 hxz hxz2 hk02
        go_wp2
        go_roundw
        case rel => exact ⟨k + 1, q + nq, by omega, by first | rfl | go_num, by first | rfl | rw [World.drewN_drewN]⟩
        case measure => simp [intOf]; omega
    · go_wp2
      go_ret
      exact ⟨rfl, q, rfl⟩
set_option maxHeartbeats 1000000 in
theorem l03Are_any (b o c : Nat) (ts : List TK) (n : Nat) (w : World) (h : TA w b o c ts n) :
    Calls Try.prog 17 #[.slice (some ⟨b, o, none⟩) n c] w fun r w' => r = .returned (.bool true) ∧ Below w.heap.size w w' := by
  have HT := hd h
  have n1 := h.n1
  have n9 := h.n9
  have hnc := h.nc
  clear h
  go_enter Try.func17, Try.ntmps17
  go_wp2
  go_loopw [6] (fun iv wr => ∃ i : Nat, i ≤ n ∧ iv = .int .i64 i ∧ Hid (Below w.heap.size w wr)) (fun iv _ => n - (intOf iv).toNat)
  case atStart => exact ⟨0, by omega, rfl, hd (Below.refl _ _)⟩
  case round =>
    obtain ⟨i, hi, rfl, HB⟩ := hrel
    by_cases hlt : i < n
    · have i2 : (i : Int) < (n : Int) := Int.ofNat_lt.2 hlt
      have L := hd (l03Task_any b (o + i * 4) (tkAt ts i) i (by omega) wr ((HT.out.below HB.out).cl i hlt) (HT.out.ok i hlt))
      go_wp2_with fail
      go_at_call 38
      refine L.out.mono ?_
      rintro e wq ⟨rfl, q, hwq⟩
      have HB' := hd (show Below w.heap.size w wq by rw [hwq]; exact below_drewN HB.out _)
      clear hwq HB L
      go_wp2
      go_roundw
      case rel => exact ⟨i + 1, by omega, by go_num, HB'⟩
      case measure => simp [intOf]; omega
    · have e1 : ((n : Int) ≥ 1) := by omega
      have e2 : ((n : Int) ≤ 16) := by omega
      go_wp2
      all_goals (go_ret; exact ⟨ret_bool (by simp; try omega), HB.out⟩)
end Go.Proofs.Ytdbojkanelmlkaa
