/- Least starts and last ends of tasks, on both sides: contracts. -/
import Derived.Test.YtdbojkanelmlkaaProA
import Derived.Test.YtdbojkanelmlkaaSlice
namespace Go.Proofs.Ytdbojkanelmlkaa
open Go.RowKit Plain
set_option linter.unusedVariables false
set_option linter.unusedSimpArgs false
attribute [local go_sem ↓] Go.wp_at_zero Go.wp_at_succ
theorem maxT_any (a b : Int) (w : World) : Calls Try.prog 39 #[.int .i64 a, .int .i64 b] w fun r w' => r = .returned (.int .i64 (if a < b then b else a)) ∧ w' = w := by
  by_cases h : b < a
  · have h2 : ¬ a < b := by omega
    rw [if_neg h2]
    go_enter Try.func39, Try.ntmps39
    go_wp2
    go_ret
    exact ⟨rfl, rfl⟩
  · have e : (if a < b then b else a) = b := by split <;> omega
    rw [e]
    go_enter Try.func39, Try.ntmps39
    go_wp2
    go_ret
    exact ⟨rfl, rfl⟩
set_option maxHeartbeats 2000000 in
theorem earliest_any (b o c : Nat) (ts : List TK) (n : Nat) (w : World) (h : TA w b o c ts n) (V : Value) (s : List Int) (hs : SA w V s n (-100000) 200000) (i : Nat) (hi : i < n) :
    Calls Try.prog 21 #[.slice (some ⟨b, o, none⟩) n c, V, .int .i64 i] w (Draws (.int .i64 (leastF ts (fun j => s.getD j 0) (tkAt ts i) (tkAt ts i).bf.length)) w) := by
  have HT := hd h
  have HS := hd hs
  have n9 := h.n9
  have hnc := h.nc
  obtain ⟨AV, cV, rfl, hcV, hr⟩ := hs.sl
  have HR := hd hr
  obtain ⟨Ab, cb, Al, cl, c0, c1, c2, c3, hb, hl, hcb, hcl⟩ := h.cl i hi
  have OK := hd (h.ok i hi)
  have hi2 : (i : Int) < (n : Int) := Int.ofNat_lt.2 hi
  have LB := hd (fun k (hk : k ≤ (tkAt ts i).bf.length) => (show 0 ≤ leastF ts (fun j => s.getD j 0) (tkAt ts i) k ∧ leastF ts (fun j => s.getD j 0) (tkAt ts i) k ≤ 200200 from ⟨(leastF_le ..).1, leastF_max (by omega) fun j hj => by
    have a := (h.ok i hi).lt (show j < _ by omega)
    have b := (h.ok (bN (tkAt ts i) j) (by omega)).a1
    have d := (h.ok i hi).l0 j (by omega)
    have e := hs.bd (bN (tkAt ts i) j) (by omega)
    omega⟩))
  have LS := hd (fun k => (show leastF ts (fun j => s.getD j 0) (tkAt ts i) (k + 1) = max (leastF ts (fun j => s.getD j 0) (tkAt ts i) k) (s.getD (bN (tkAt ts i) k) 0 + (tkAt ts (bN (tkAt ts i) k)).a + (tkAt ts i).lg.getD k 0) from rfl))
  have L0 := hd (show leastF ts (fun j => s.getD j 0) (tkAt ts i) 0 = 0 from rfl)
  generalize leastF ts (fun j => s.getD j 0) (tkAt ts i) = L at *
  generalize tkAt ts i = t at *
  obtain ⟨m, hm⟩ : ∃ m, m = t.bf.length := ⟨_, rfl⟩
  have HM := hd hm
  have hm9 : m ≤ 9 := by have := OK.out.short; omega
  rw [← hm] at c2 c3 hb hl hcb hcl LB ⊢
  have RB := hd hb
  have RL := hd hl
  clear h hs hr hb hl hm c0 c1
  go_enter Try.func21, Try.ntmps21
  go_wp2
  go_loopw [7, 16] (fun av iv wr => ∃ (k q : Nat), k ≤ m ∧ iv = .int .i64 k ∧ av = .int .i64 (L k) ∧ wr = w.drewN q) (fun _ iv _ => m - (intOf iv).toNat)
  case atStart => exact ⟨0, 0, by omega, rfl, by rw [L0.out], rfl⟩
  case round =>
    obtain ⟨k, q, hk, rfl, rfl, hwr⟩ := hrel
    by_cases hkm : k < m
    · have hk2 : (k : Int) < (m : Int) := Int.ofNat_lt.2 hkm
      have hkl : k < t.bf.length := by have := HM.out; omega
      obtain ⟨bb, ob, rfl, cb'⟩ := RB.out.int hkm
      obtain ⟨bl, ol, rfl, cl'⟩ := RL.out.int hkm
      rw [OK.out.cast hkl] at cb'
      have hj := OK.out.lt hkl
      have hjn : bN t k < n := by omega
      obtain ⟨bv, ov, rfl, cs⟩ := HR.out.int hjn
      obtain ⟨_, _, _, _, ca, _⟩ := HT.out.cl (bN t k) hjn
      have lb := LB.out k (by omega)
      have ls := LS.out k
      have a0 := (HT.out.ok (bN t k) hjn).a0
      have a1 := (HT.out.ok (bN t k) hjn).a1
      have sb := HS.out.bd (bN t k) hjn
      have lg := OK.out.l0 k hkl
      rw [max_ifT] at ls
      have LS' := hd ls
      generalize bN t k = j at *
      generalize s.getD j 0 = x at *
      generalize (tkAt ts j).a = ta at *
      generalize t.lg.getD k 0 = y at *
      obtain ⟨z, hz⟩ : ∃ z, z = L k := ⟨_, rfl⟩
      rw [← hz] at lb LS' ⊢
      have hj2 : (j : Int) < (n : Int) := Int.ofNat_lt.2 hjn
      have w1 : IntKind.i64.wrap (x + ta) = x + ta := IntWalk.i64_in _ (by omega)
      have w2 : IntKind.i64.wrap (x + ta + y) = x + ta + y := IntWalk.i64_in _ (by omega)
      clear hz ls lb a0 a1 sb lg hkl hj
      subst hwr
      go_wp2_with fail
      go_quiet (fail)
      clear cb' cl' cs ca w1 w2 c2 c3
      go_wp2
      go_roundw
      case rel => exact ⟨k + 1, q + nq, by omega, by go_num, by rw [LS'.out], by first | rfl | rw [World.drewN_drewN]⟩
      case measure => simp [intOf]; omega
    · obtain rfl : m = k := by omega
      subst hwr
      go_wp2
      go_ret
      exact ⟨rfl, q, rfl⟩
set_option maxHeartbeats 2000000 in
theorem l03Least_any (b o c : Nat) (ts : List TK) (n : Nat) (w : World) (h : TA w b o c ts n) (V : Value) (s : List Int) (hs : SA w V s n (-100000) 200000) (i : Nat) (hi : i < n) :
    Calls Try.prog 25 #[.slice (some ⟨b, o, none⟩) n c, V, .int .i64 i] w (Draws (.int .i64 (leastF ts (fun j => s.getD j 0) (tkAt ts i) (tkAt ts i).bf.length)) w) := by
  have HT := hd h
  have HS := hd hs
  have n9 := h.n9
  have hnc := h.nc
  obtain ⟨AV, cV, rfl, hcV, hr⟩ := hs.sl
  have HR := hd hr
  obtain ⟨Ab, cb, Al, cl, c0, c1, c2, c3, hb, hl, hcb, hcl⟩ := h.cl i hi
  have OK := hd (h.ok i hi)
  have hi2 : (i : Int) < (n : Int) := Int.ofNat_lt.2 hi
  have LB := hd (fun k (hk : k ≤ (tkAt ts i).bf.length) => (show 0 ≤ leastF ts (fun j => s.getD j 0) (tkAt ts i) k ∧ leastF ts (fun j => s.getD j 0) (tkAt ts i) k ≤ 200200 from ⟨(leastF_le ..).1, leastF_max (by omega) fun j hj => by
    have a := (h.ok i hi).lt (show j < _ by omega)
    have b := (h.ok (bN (tkAt ts i) j) (by omega)).a1
    have d := (h.ok i hi).l0 j (by omega)
    have e := hs.bd (bN (tkAt ts i) j) (by omega)
    omega⟩))
  have LS := hd (fun k => (show leastF ts (fun j => s.getD j 0) (tkAt ts i) (k + 1) = max (leastF ts (fun j => s.getD j 0) (tkAt ts i) k) (s.getD (bN (tkAt ts i) k) 0 + (tkAt ts (bN (tkAt ts i) k)).a + (tkAt ts i).lg.getD k 0) from rfl))
  have L0 := hd (show leastF ts (fun j => s.getD j 0) (tkAt ts i) 0 = 0 from rfl)
  generalize leastF ts (fun j => s.getD j 0) (tkAt ts i) = L at *
  generalize tkAt ts i = t at *
  obtain ⟨m, hm⟩ : ∃ m, m = t.bf.length := ⟨_, rfl⟩
  have HM := hd hm
  have hm9 : m ≤ 9 := by have := OK.out.short; omega
  rw [← hm] at c2 c3 hb hl hcb hcl LB ⊢
  have RB := hd hb
  have RL := hd hl
  clear h hs hr hb hl hm c0 c1
  go_enter Try.func25, Try.ntmps25
  go_wp2
  go_loopw [7, 16] (fun av iv wr => ∃ (k q : Nat), k ≤ m ∧ iv = .int .i64 k ∧ av = .int .i64 (L k) ∧ wr = w.drewN q) (fun _ iv _ => m - (intOf iv).toNat)
  case atStart => exact ⟨0, 0, by omega, rfl, by rw [L0.out], rfl⟩
  case round =>
    obtain ⟨k, q, hk, rfl, rfl, hwr⟩ := hrel
    by_cases hkm : k < m
    · have hk2 : (k : Int) < (m : Int) := Int.ofNat_lt.2 hkm
      have hkl : k < t.bf.length := by have := HM.out; omega
      obtain ⟨bb, ob, rfl, cb'⟩ := RB.out.int hkm
      obtain ⟨bl, ol, rfl, cl'⟩ := RL.out.int hkm
      rw [OK.out.cast hkl] at cb'
      have hj := OK.out.lt hkl
      have hjn : bN t k < n := by omega
      obtain ⟨bv, ov, rfl, cs⟩ := HR.out.int hjn
      obtain ⟨_, _, _, _, ca, _⟩ := HT.out.cl (bN t k) hjn
      have lb := LB.out k (by omega)
      have ls := LS.out k
      have a0 := (HT.out.ok (bN t k) hjn).a0
      have a1 := (HT.out.ok (bN t k) hjn).a1
      have sb := HS.out.bd (bN t k) hjn
      have lg := OK.out.l0 k hkl
      rw [max_ifT] at ls
      have LS' := hd ls
      generalize bN t k = j at *
      generalize s.getD j 0 = x at *
      generalize (tkAt ts j).a = ta at *
      generalize t.lg.getD k 0 = y at *
      obtain ⟨z, hz⟩ : ∃ z, z = L k := ⟨_, rfl⟩
      rw [← hz] at lb LS' ⊢
      have hj2 : (j : Int) < (n : Int) := Int.ofNat_lt.2 hjn
      have w1 : IntKind.i64.wrap (x + ta) = x + ta := IntWalk.i64_in _ (by omega)
      have w2 : IntKind.i64.wrap (x + ta + y) = x + ta + y := IntWalk.i64_in _ (by omega)
      clear hz ls lb a0 a1 sb lg hkl hj
      subst hwr
      go_wp2_with fail
      go_quiet ((go_at_call 39; exact (maxT_any _ _ _).mono fun _ _ h => by (obtain ⟨h1, h2⟩ := h; refine ⟨h1, ?_⟩; rw [h2]; first | exact ⟨_, rfl⟩ | (rw [World.drewN_drewN]; exact ⟨_, rfl⟩))))
      clear cb' cl' cs ca w1 w2 c2 c3
      go_wp2
      go_roundw
      case rel => exact ⟨k + 1, q + nq, by omega, by go_num, by rw [LS'.out], by first | rfl | rw [World.drewN_drewN]⟩
      case measure => simp [intOf]; omega
    · obtain rfl : m = k := by omega
      subst hwr
      go_wp2
      go_ret
      exact ⟨rfl, q, rfl⟩
set_option maxHeartbeats 2000000 in
theorem b10Start_any (b o c : Nat) (ts : List TK) (n : Nat) (w : World) (h : TA w b o c ts n) (V : Value) (s : List Int) (hs : SA w V s n (-100000) 200000) (i : Nat) (hi : i < n) :
    Calls Try.prog 11 #[.slice (some ⟨b, o, none⟩) n c, V, .int .i64 i] w (Draws (.int .i64 (leastF ts (fun j => s.getD j 0) (tkAt ts i) (tkAt ts i).bf.length)) w) := by
  have HT := hd h
  have HS := hd hs
  have n9 := h.n9
  have hnc := h.nc
  obtain ⟨AV, cV, rfl, hcV, hr⟩ := hs.sl
  have HR := hd hr
  obtain ⟨Ab, cb, Al, cl, c0, c1, c2, c3, hb, hl, hcb, hcl⟩ := h.cl i hi
  have OK := hd (h.ok i hi)
  have hi2 : (i : Int) < (n : Int) := Int.ofNat_lt.2 hi
  have LB := hd (fun k (hk : k ≤ (tkAt ts i).bf.length) => (show 0 ≤ leastF ts (fun j => s.getD j 0) (tkAt ts i) k ∧ leastF ts (fun j => s.getD j 0) (tkAt ts i) k ≤ 200200 from ⟨(leastF_le ..).1, leastF_max (by omega) fun j hj => by
    have a := (h.ok i hi).lt (show j < _ by omega)
    have b := (h.ok (bN (tkAt ts i) j) (by omega)).a1
    have d := (h.ok i hi).l0 j (by omega)
    have e := hs.bd (bN (tkAt ts i) j) (by omega)
    omega⟩))
  have LS := hd (fun k => (show leastF ts (fun j => s.getD j 0) (tkAt ts i) (k + 1) = max (leastF ts (fun j => s.getD j 0) (tkAt ts i) k) (s.getD (bN (tkAt ts i) k) 0 + (tkAt ts (bN (tkAt ts i) k)).a + (tkAt ts i).lg.getD k 0) from rfl))
  have L0 := hd (show leastF ts (fun j => s.getD j 0) (tkAt ts i) 0 = 0 from rfl)
  generalize leastF ts (fun j => s.getD j 0) (tkAt ts i) = L at *
  generalize tkAt ts i = t at *
  obtain ⟨m, hm⟩ : ∃ m, m = t.bf.length := ⟨_, rfl⟩
  have HM := hd hm
  have hm9 : m ≤ 9 := by have := OK.out.short; omega
  rw [← hm] at c2 c3 hb hl hcb hcl LB ⊢
  have RB := hd hb
  have RL := hd hl
  clear h hs hr hb hl hm c0 c1
  go_enter Try.func11, Try.ntmps11
  go_wp2
  go_loopw [7, 16] (fun av iv wr => ∃ (k q : Nat), k ≤ m ∧ iv = .int .i64 k ∧ av = .int .i64 (L k) ∧ wr = w.drewN q) (fun _ iv _ => m - (intOf iv).toNat)
  case atStart => exact ⟨0, 0, by omega, rfl, by rw [L0.out], rfl⟩
  case round =>
    obtain ⟨k, q, hk, rfl, rfl, hwr⟩ := hrel
    by_cases hkm : k < m
    · have hk2 : (k : Int) < (m : Int) := Int.ofNat_lt.2 hkm
      have hkl : k < t.bf.length := by have := HM.out; omega
      obtain ⟨bb, ob, rfl, cb'⟩ := RB.out.int hkm
      obtain ⟨bl, ol, rfl, cl'⟩ := RL.out.int hkm
      rw [OK.out.cast hkl] at cb'
      have hj := OK.out.lt hkl
      have hjn : bN t k < n := by omega
      obtain ⟨bv, ov, rfl, cs⟩ := HR.out.int hjn
      obtain ⟨_, _, _, _, ca, _⟩ := HT.out.cl (bN t k) hjn
      have lb := LB.out k (by omega)
      have ls := LS.out k
      have a0 := (HT.out.ok (bN t k) hjn).a0
      have a1 := (HT.out.ok (bN t k) hjn).a1
      have sb := HS.out.bd (bN t k) hjn
      have lg := OK.out.l0 k hkl
      rw [max_ifT] at ls
      have LS' := hd ls
      generalize bN t k = j at *
      generalize s.getD j 0 = x at *
      generalize (tkAt ts j).a = ta at *
      generalize t.lg.getD k 0 = y at *
      obtain ⟨z, hz⟩ : ∃ z, z = L k := ⟨_, rfl⟩
      rw [← hz] at lb LS' ⊢
      have hj2 : (j : Int) < (n : Int) := Int.ofNat_lt.2 hjn
      have w1 : IntKind.i64.wrap (x + ta) = x + ta := IntWalk.i64_in _ (by omega)
      have w2 : IntKind.i64.wrap (x + ta + y) = x + ta + y := IntWalk.i64_in _ (by omega)
      clear hz ls lb a0 a1 sb lg hkl hj
      subst hwr
      go_wp2_with fail
      go_quiet (fail)
      clear cb' cl' cs ca w1 w2 c2 c3
      go_wp2
      go_roundw
      case rel => exact ⟨k + 1, q + nq, by omega, by go_num, by rw [LS'.out], by first | rfl | rw [World.drewN_drewN]⟩
      case measure => simp [intOf]; omega
    · obtain rfl : m = k := by omega
      subst hwr
      go_wp2
      go_ret
      exact ⟨rfl, q, rfl⟩
end Go.Proofs.Ytdbojkanelmlkaa
