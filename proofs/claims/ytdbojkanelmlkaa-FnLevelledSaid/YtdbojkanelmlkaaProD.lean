/- Greatest starts and slacks of tasks: contracts. -/
import Derived.Test.YtdbojkanelmlkaaProC
import Derived.StillTailTactics
namespace Go.Proofs.Ytdbojkanelmlkaa
open Go.RowKit Plain
set_option linter.unusedVariables false
set_option linter.unusedSimpArgs false
attribute [local go_sem ↓] Go.wp_at_zero Go.wp_at_succ
set_option maxHeartbeats 1000000 in
theorem indexP_any (v : Value) (xs : List Int) (x : Int) (w : World) (hs : Sl w 1 v xs.length (xs.map vi)) (hl : xs.length ≤ 1048576) :
    Calls Try.prog 40 #[v, .int .i64 x] w fun r w' => r = .returned (.int .i64 (firstI xs x xs.length)) ∧ w' = w := by
  obtain ⟨A, cap, rfl, hcap, hr⟩ := hs
  have FF := hd (fun k (hk : k < xs.length) hx (h : ∀ j, j < k → xs.getD j 0 ≠ x) => first_found (po := xs) (x := x) hk hx h)
  have FN := hd (fun (h : ∀ j, j < xs.length → xs.getD j 0 ≠ x) => first_none (po := xs) (x := x) h)
  have HR := hd hr
  generalize xs.length = n at *
  clear hr
  go_enter Try.func40, Try.ntmps40
  go_wp2
  go_loop [8] (fun i => ∃ k : Nat, k ≤ n ∧ i = .int .i64 k ∧ Hid (∀ j, j < k → xs.getD j 0 ≠ x)) (fun i => n - (intOf i).toNat)
  case atStart => exact ⟨0, by omega, rfl, hd (fun j hj => by omega)⟩
  case round =>
    obtain ⟨k, hk, rfl, ha⟩ := hrel
    by_cases hlt : k < n
    · obtain ⟨b, off, rfl, hc⟩ := HR.out.int hlt
      have E := hd (fun h => FF.out k hlt h ha.out)
      generalize hv : xs.getD k 0 = y at *
      have HV := hd hv
      clear hv
      have i1 : (0 : Int) ≤ (k : Int) := by omega
      have i2 : (k : Int) < (n : Int) := by omega
      by_cases hxy : x = y
      · have E2 := hd (E.out hxy.symm)
        clear E
        subst hxy
        go_wp2
        go_ret
        exact ⟨ret_i64 E2.out.symm, rfl⟩
      · clear E
        have hxy2 : (x == y) = false := by simpa using hxy
        go_wp2
        go_round
        case rel =>
          refine ⟨k + 1, by omega, by go_num, hd (fun j hj => ?_)⟩
          rcases Nat.lt_or_ge j k with h | h
          · exact ha.out j h
          · have : j = k := by omega
            subst this
            rw [HV.out]; exact fun h => hxy h.symm
        case measure => simp [intOf]; omega
    · have e : k = n := by omega
      subst e
      have E := hd (FN.out ha.out)
      go_wp2
      go_ret
      exact ⟨ret_i64 E.out.symm, rfl⟩

set_option maxHeartbeats 2000000 in
theorem latest_any (b o c : Nat) (ts : List TK) (n : Nat) (w : World) (h : TA w b o c ts n) (V : Value) (s : List Int) (hs : SA w V s n (-100000) 200000) (i : Nat) (hi : i < n) (e : Int) (e0 : 0 ≤ e) (e1 : e ≤ 100000) :
    Calls Try.prog 22 #[.slice (some ⟨b, o, none⟩) n c, V, .int .i64 i, .int .i64 e] w (Draws (.int .i64 (lateF ts (fun j => s.getD j 0) i e (n - 1 - i))) w) := by
  have HT := hd h
  have HS := hd hs
  have n9 := h.n9
  have hnc := h.nc
  obtain ⟨AV, cV, rfl, hcV, hr⟩ := hs.sl
  have HR := hd hr
  have hi2 : (i : Int) < (n : Int) := Int.ofNat_lt.2 hi
  have ca0 := (h.cl i hi).choose_spec.choose_spec.choose_spec.choose_spec.1
  have LB := hd (fun m (hm : i + m < n) => lateF_bd h.ok (st := fun j => s.getD j 0) (e := e) (B := -100000) m hm e0 (by omega) (fun j h1 h2 => (hs.bd j (by omega)).1))
  have LS := hd (fun m => (show lateF ts (fun j => s.getD j 0) i e (m + 1) = if 0 ≤ firstI (tkAt ts (i + 1 + m)).bf (i : Int) (tkAt ts (i + 1 + m)).bf.length then min (lateF ts (fun j => s.getD j 0) i e m) (s.getD (i + 1 + m) 0 - (tkAt ts (i + 1 + m)).lg.getD (firstI (tkAt ts (i + 1 + m)).bf (i : Int) (tkAt ts (i + 1 + m)).bf.length).toNat 0 - (tkAt ts i).a) else lateF ts (fun j => s.getD j 0) i e m from rfl))
  have L0 := hd (show lateF ts (fun j => s.getD j 0) i e 0 = e - (tkAt ts i).a from rfl)
  have a0 := (h.ok i hi).a0
  have a1 := (h.ok i hi).a1
  generalize lateF ts (fun j => s.getD j 0) i e = L at *
  obtain ⟨ta, hta⟩ : ∃ ta, ta = (tkAt ts i).a := ⟨_, rfl⟩
  rw [← hta] at L0 a0 a1 ca0
  have HTA := hd hta
  have we : IntKind.i64.wrap (e - ta) = e - ta := IntWalk.i64_in _ (by omega)
  obtain ⟨i1, hi1⟩ : ∃ i1, i1 = i + 1 := ⟨_, rfl⟩
  have HI1 := hd hi1
  have hwi : IntKind.i64.wrap ((i : Int) + 1) = (i1 : Int) := by rw [IntWalk.i64_in _ (by omega), hi1]; push_cast; rfl
  clear h hs hr hta hi1
  go_enter Try.func22, Try.ntmps22
  go_wp2
  go_loopw [9, 10] (fun av jv wr => ∃ (j m q : Nat), j ≤ n ∧ Hid (j = i + 1 + m) ∧ jv = .int .i64 j ∧ av = .int .i64 (L m) ∧ wr = w.drewN q) (fun _ jv _ => n - (intOf jv).toNat)
  case atStart => exact ⟨i1, 0, 0, by have := HI1.out; omega, hd (by have := HI1.out; omega), rfl, by rw [L0.out], rfl⟩
  case round =>
    clear we hwi
    obtain ⟨j, m, q, hjle, HJ, rfl, rfl, hwr⟩ := hrel
    subst hwr
    have ls := LS.out m
    rw [← HJ.out] at ls
    have hm : i + m < n := by have := HJ.out; omega
    have lb := LB.out m hm
    by_cases hjn : j < n
    · have hj2 : (j : Int) < (n : Int) := Int.ofNat_lt.2 hjn
      obtain ⟨Ab, cb, Al, cl, _, _, c2, c3, hb, hl, hcb, hcl⟩ := HT.out.cl j hjn
      have OK := HT.out.ok j hjn
      have IX := hd (indexP_any (.slice Ab (tkAt ts j).bf.length cb) (tkAt ts j).bf (i : Int) (w.drewN q) ⟨Ab, cb, rfl, hcb, (show Rd (w.drewN q) 1 Ab _ _ from hb)⟩ (by have := OK.short; omega))
      have F9 := fun h0 => firstI_at (po := (tkAt ts j).bf) (x := (i : Int)) (m := (tkAt ts j).bf.length) h0
      have L9 := OK.l0
      have RL := hd hl
      have hsh := OK.short
      generalize firstI (tkAt ts j).bf (i : Int) (tkAt ts j).bf.length = f at *
      generalize tkAt ts j = t at *
      generalize hml : t.bf.length = ml at *
      clear hml
      have hsb := HS.out.bd j hjn
      obtain ⟨bv, ov, rfl, cs⟩ := HR.out.int hjn
      have hwj : IntKind.i64.wrap ((j : Int) + 1) = ((j + 1 : Nat) : Int) := by rw [IntWalk.i64_in _ (by omega)]; push_cast; rfl
      go_wp2_with fail
      go_at_call 40
      refine IX.out.mono ?_
      rintro e' w' ⟨rfl, hw⟩
      subst w'
      clear IX hb
      by_cases hf : 0 ≤ f
      · obtain ⟨f1, f2⟩ := F9 hf
        obtain ⟨k, rfl⟩ : ∃ k : Nat, f = (k : Int) := ⟨f.toNat, by omega⟩
        rw [Int.toNat_natCast] at f1 f2
        have hkl := L9 k f1
        rw [if_pos hf, Int.toNat_natCast, min_ifT, ← HTA.out] at ls
        obtain ⟨bl, ol, rfl, cl'⟩ := RL.out.int f1
        have LSm := hd ls
        generalize t.lg.getD k 0 = y at *
        generalize s.getD j 0 = x at *
        obtain ⟨z, hz⟩ : ∃ z, z = L m := ⟨_, rfl⟩
        rw [← hz] at lb LSm ⊢
        have w1 : IntKind.i64.wrap (x - y) = x - y := IntWalk.i64_in _ (by omega)
        have w2 : IntKind.i64.wrap (x - y - ta) = x - y - ta := IntWalk.i64_in _ (by omega)
        have hk2 : (k : Int) < (ml : Int) := Int.ofNat_lt.2 f1
        clear hz ls F9 L9 hkl hsb f2 c2
        go_wp2_with fail
        go_quiet (fail)
        clear w1 w2 cl' cs c3 hk2
        go_wp2
        go_roundw
        case rel => exact ⟨j + 1, m + 1, q + nq, by omega, hd (by have := HJ.out; omega), by first | rfl | go_num, by rw [LSm.out], by first | rfl | rw [World.drewN_drewN]⟩
        case measure => simp [intOf]; omega
      · rw [if_neg hf] at ls
        have LSm := hd ls
        have hf2 : ¬ f ≥ 0 := by omega
        clear ls F9 L9 c2 c3 cs
        go_wp2
        go_roundw
        case rel => exact ⟨j + 1, m + 1, q, by omega, hd (by have := HJ.out; omega), by first | rfl | go_num, by rw [LSm.out], rfl⟩
        case measure => simp [intOf]; omega
    · have hmm : n - 1 - i = m := by have := HJ.out; omega
      rw [hmm]
      have hj2 : ¬ (j : Int) < (n : Int) := by omega
      go_wp2
      go_ret
      exact ⟨rfl, q, rfl⟩
end Go.Proofs.Ytdbojkanelmlkaa
