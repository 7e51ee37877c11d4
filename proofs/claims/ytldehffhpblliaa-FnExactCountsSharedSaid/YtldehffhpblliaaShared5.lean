/- The counts of many rules of shifts, on both sides. -/
import Derived.Test.YtldehffhpblliaaProg
import Derived.Test.YtldehffhpblliaaShiftM
import Derived.Test.YtldehffhpblliaaWords5
import Derived.Test.YtldehffhpblliaaOpen5
namespace Go.Proofs.Ytldehffhpblliaa
open Go.RowKit Plain
set_option linter.unusedVariables false
set_option linter.unusedSimpArgs false
attribute [local go_sem ↓] Go.wp_at_zero Go.wp_at_succ

def sh5Ok (wk : Int) (ms : List SR) : Bool := decide (1 ≤ ms.length ∧ ms.length ≤ 16) && (inR wk 1 8 && ms.all validS)
def sh5L (ms : List SR) : List Int := ms.map cntS
def MSh5 (wk : Int) (ms : List SR) : List Int × Bool := if sh5Ok wk ms then (sh5L ms, true) else ([], false)
theorem MSh5_no {wk : Int} {ms : List SR} (h : sh5Ok wk ms = false) : MSh5 wk ms = ([], false) := by rw [MSh5, h]; rfl
theorem MSh5_bad {wk : Int} {ms : List SR} {k : Nat} {m : SR} (hk : ms[k]? = some m) (h : validS m = false) : MSh5 wk ms = ([], false) :=
  MSh5_no (by rw [sh5Ok, all_false_of hk h, Bool.and_false, Bool.and_false])
theorem MSh5_yes {wk : Int} {ms : List SR} (h1 : 1 ≤ ms.length ∧ ms.length ≤ 16) (h2 : inR wk 1 8 = true) (h3 : ms.all validS = true) : MSh5 wk ms = (sh5L ms, true) := by
  rw [MSh5, sh5Ok, decide_eq_true h1, h2, h3]; rfl
theorem sh5_take {ms : List SR} {k : Nat} {m : SR} (hk : ms[k]? = some m) : sh5L (ms.take (k + 1)) = sh5L (ms.take k) ++ [cntS m] := by
  rw [List.take_add_one, hk]; simp [sh5L]
theorem sh5_len {wk : Int} {ms : List SR} : (MSh5 wk ms).1.length ≤ 16 := by
  unfold MSh5
  split
  · rename_i h
    simp only [sh5Ok, Bool.and_eq_true, decide_eq_true_eq] at h
    simp only [sh5L, List.length_map]
    omega
  · simp

set_option maxHeartbeats 400000 in
theorem areWorkers_any (n : Int) (w : World) : Calls Try.prog 36 #[.int .i64 n] w fun r w' => r = .returned (.bool (inR n 1 8)) ∧ w' = w := by
  go_enter Try.func36, Try.ntmps36
  go_wp2_with (go_at_call 47; refine (within_any _ _ _ _).mono ?_; rintro e w' ⟨rfl, rfl⟩)
  go_ret
  exact ⟨rfl, rfl⟩

set_option maxHeartbeats 1000000 in
set_option maxRecDepth 100000 in
theorem CountsShared_any (w : World) (wk : Int) (v : Value) (ms : List SR) (s : Sl w 5 v ms.length (s5s ms)) :
    Calls Try.prog 20 #[v, .int .i64 wk] w (OutL 2 1 (MSh5 wk ms).1.length ((MSh5 wk ms).1.map vi) (fun u => .tuple #[u, .bool (MSh5 wk ms).2]) w) := by
  obtain ⟨A, cap, rfl, hcap, hr⟩ := s
  have hm0 := hr.2.1
  unfold maxLen at hm0
  by_cases h8 : 1 ≤ ms.length ∧ ms.length ≤ 16
  · have g1 : ¬ (ms.length : Int) < 1 := by omega
    have g2 : ¬ (16 : Int) < (ms.length : Int) := by omega
    cases hwk : inR wk 1 8 with
    | false =>
      have H := hd (MSh5_no (ms := ms) (show sh5Ok wk ms = false by rw [sh5Ok, hwk, Bool.false_and, Bool.and_false]))
      have A3 := hd (fun w' => (show Calls Try.prog 36 #[.int .i64 wk] w' fun r w2 => r = .returned (.bool false) ∧ w2 = w' from hwk ▸ areWorkers_any wk w'))
      clear hwk h8
      go_enter Try.func20, Try.ntmps20
      go_wp2_with (first | (go_at_call 36; refine (A3.out _).mono ?_; rintro e w' ⟨rfl, hw⟩; replace hw := hw.symm; subst hw))
      go_ret2
      rw [H.out]
      exact ⟨_, rfl, World.ownsRow_nil _ _ _ _, Below.refl _ _⟩
    | true =>
      have A3 := hd (fun w' => (show Calls Try.prog 36 #[.int .i64 wk] w' fun r w2 => r = .returned (.bool true) ∧ w2 = w' from hwk ▸ areWorkers_any wk w'))
      have MB := hd (fun k m h1 h2 => MSh5_bad (wk := wk) (ms := ms) (k := k) (m := m) h1 h2)
      have MY := hd (fun h => MSh5_yes (wk := wk) (ms := ms) h8 hwk h)
      have TK := hd (fun k m h => sh5_take (ms := ms) (k := k) (m := m) h)
      have LN := hd (show (sh5L ms).length = ms.length by simp [sh5L])
      have h16 := h8.2
      clear hwk h8
      generalize hn : ms.length = n at *
      have Hn := hd hn
      clear hn
      go_enter Try.func20, Try.ntmps20
      go_wp2_with (first | (go_at_call 36; refine (A3.out _).mono ?_; rintro e w' ⟨rfl, hw⟩; replace hw := hw.symm; subst hw))
      have hstart := World.ownsRow_made (size := 1) w #[] 0 (Nat.le_refl _) (by unfold maxLen; omega) rfl (e := 2)
      clear g1 g2
      go_loopw [6, 27] (fun out ix wr => ∃ k : Nat, k ≤ n ∧ ix = .int .i64 k ∧ Hid ((ms.take k).all validS = true) ∧ wr.ownsRow w.heap.size 2 1 out k ((sh5L (ms.take k)).map vi) ∧ Below w.heap.size w wr) (fun _ ix _ => n - (intOf ix).toNat)
      case atStart => exact ⟨0, by omega, rfl, hd (by simp), by simpa [sh5L] using hstart, (Below.refl _ _).alloc (Nat.le_refl _) _⟩
      case round =>
        obtain ⟨k, hk, rfl, hall, ho, hb⟩ := hrel
        clear hstart
        by_cases hlt : k < n
        · obtain ⟨b, off, qa, qb, qc, qd, qe, rfl, hq, c0, c1, c2, c3, c4⟩ := (hr.below hb).s5 hlt
          have HMB := hd (MB.out k _ hq.out)
          have HTK := hd (TK.out k _ hq.out)
          have HAL := hd (fun h => all_take_of (p := validS) hall.out hq.out h)
          have i1 : (0 : Int) ≤ (k : Int) := by omega
          have i2 : (k : Int) < (n : Int) := by omega
          have Ho := hd ho; have Hb := hd hb
          clear ho hb hr
          have CC := fun w1 => implCountShifts_any ⟨qa, qb, qc, qd, qe⟩ w1
          cases hcm : validS ⟨qa, qb, qc, qd, qe⟩ with
          | false =>
            simp only [hcm, SR.val] at CC
            have HC := hd CC
            have H := hd (HMB.out hcm)
            generalize cntS ⟨qa, qb, qc, qd, qe⟩ = c at *
            clear CC hcm
            go_wp2_with (go_at_call 19; refine (HC.out _).mono ?_; rintro e w2 ⟨rfl, hb2⟩)
            go_ret2
            rw [H.out]
            exact ⟨_, rfl, World.ownsRow_nil _ _ _ _, below_tr hb2 (below_tr (by go_grown) Hb.out)⟩
          | true =>
            simp only [hcm, SR.val] at CC
            have HC := hd CC
            have HA2 := hd (HAL.out hcm)
            have htk := HTK.out
            generalize cntS ⟨qa, qb, qc, qd, qe⟩ = c at *
            have HT := hd htk
            clear CC hcm htk HTK
            go_wp2_with (first
              | (go_at_call 19; refine (HC.out _).mono ?_; rintro e w2 ⟨rfl, hb2⟩; have hb3 : Below wr.heap.size wr w2 := below_tr hb2 (by go_grown))
              | (at_builtin; go_must (refine wpList_app_int _ _ _ rfl _ _ rfl w.heap.size k _ _ rfl (own_below Ho.out hb3) rfl _ rfl (by simp) (by omega) (by have := Hb.out.size; have := hb3.size; omega) ?_); intro v' w1 ho1 hg1 hap))
            go_roundw
            case rel =>
              refine ⟨k + 1, by omega, by go_num, HA2, ?_, below_row hg1 (below_tr hb3 Hb.out) (own_row Ho.out (Nat.le_refl _))⟩
              rw [HT.out, List.map_append]
              exact ho1
            case measure => simp [intOf]; omega
        · have e : k = n := by omega
          subst e
          have H := hd (MY.out (all_whole hall.out (by have := Hn.out; omega)))
          rw [List.take_of_length_le (by have := Hn.out; omega)] at ho
          go_wp2
          go_ret2
          rw [H.out]
          refine ⟨_, rfl, ?_, hb⟩
          simp only [LN.out]
          exact ho
  · have H := hd (MSh5_no (wk := wk) (show sh5Ok wk ms = false by rw [sh5Ok, decide_eq_false h8, Bool.false_and]))
    by_cases h9 : (ms.length : Int) < 1
    · go_enter Try.func20, Try.ntmps20
      go_wp2
      go_ret2
      rw [H.out]
      exact ⟨_, rfl, World.ownsRow_nil _ _ _ _, Below.refl _ _⟩
    · have h8' : (16 : Int) < (ms.length : Int) := by omega
      clear h8
      go_enter Try.func20, Try.ntmps20
      go_wp2
      go_ret2
      rw [H.out]
      exact ⟨_, rfl, World.ownsRow_nil _ _ _ _, Below.refl _ _⟩

set_option maxHeartbeats 1000000 in
set_option maxRecDepth 100000 in
theorem specCountsShared_any (w : World) (wk : Int) (v : Value) (ms : List SR) (s : Sl w 5 v ms.length (s5s ms)) :
    Calls Try.prog 21 #[v, .int .i64 wk] w (OutL 2 1 (MSh5 wk ms).1.length ((MSh5 wk ms).1.map vi) (fun u => .tuple #[u, .bool (MSh5 wk ms).2]) w) := by
  obtain ⟨A, cap, rfl, hcap, hr⟩ := s
  have hm0 := hr.2.1
  unfold maxLen at hm0
  by_cases h8 : 1 ≤ ms.length ∧ ms.length ≤ 16
  · have g1 : ¬ (ms.length : Int) < 1 := by omega
    have g2 : ¬ (16 : Int) < (ms.length : Int) := by omega
    cases hwk : inR wk 1 8 with
    | false =>
      have H := hd (MSh5_no (ms := ms) (show sh5Ok wk ms = false by rw [sh5Ok, hwk, Bool.false_and, Bool.and_false]))
      have A3 := hd (fun w' => l00In_f wk 1 8 w' hwk)
      clear hwk h8
      go_enter Try.func21, Try.ntmps21
      go_wp2_with (first | (go_at_call 33; refine (A3.out _).mono ?_; rintro e w' ⟨rfl, hw⟩; replace hw := hw.symm; subst hw))
      go_ret2
      rw [H.out]
      exact ⟨_, rfl, World.ownsRow_nil _ _ _ _, Below.refl _ _⟩
    | true =>
      have A3 := hd (fun w' => l00In_t wk 1 8 w' hwk)
      have MB := hd (fun k m h1 h2 => MSh5_bad (wk := wk) (ms := ms) (k := k) (m := m) h1 h2)
      have MY := hd (fun h => MSh5_yes (wk := wk) (ms := ms) h8 hwk h)
      have TK := hd (fun k m h => sh5_take (ms := ms) (k := k) (m := m) h)
      have LN := hd (show (sh5L ms).length = ms.length by simp [sh5L])
      have h16 := h8.2
      clear hwk h8
      generalize hn : ms.length = n at *
      have Hn := hd hn
      clear hn
      go_enter Try.func21, Try.ntmps21
      go_wp2_with (first | (go_at_call 33; refine (A3.out _).mono ?_; rintro e w' ⟨rfl, hw⟩; replace hw := hw.symm; subst hw))
      have hstart := World.ownsRow_made (size := 1) w #[] 0 (Nat.le_refl _) (by unfold maxLen; omega) rfl (e := 2)
      clear g1 g2
      go_loopw [6, 7] (fun out ix wr => ∃ k : Nat, k ≤ n ∧ ix = .int .i64 k ∧ Hid ((ms.take k).all validS = true) ∧ wr.ownsRow w.heap.size 2 1 out k ((sh5L (ms.take k)).map vi) ∧ Below w.heap.size w wr) (fun _ ix _ => n - (intOf ix).toNat)
      case atStart => exact ⟨0, by omega, rfl, hd (by simp), by simpa [sh5L] using hstart, (Below.refl _ _).alloc (Nat.le_refl _) _⟩
      case round =>
        obtain ⟨k, hk, rfl, hall, ho, hb⟩ := hrel
        clear hstart
        by_cases hlt : k < n
        · obtain ⟨b, off, qa, qb, qc, qd, qe, rfl, hq, c0, c1, c2, c3, c4⟩ := (hr.below hb).s5 hlt
          have HMB := hd (MB.out k _ hq.out)
          have HTK := hd (TK.out k _ hq.out)
          have HAL := hd (fun h => all_take_of (p := validS) hall.out hq.out h)
          have i1 : (0 : Int) ≤ (k : Int) := by omega
          have i2 : (k : Int) < (n : Int) := by omega
          have Ho := hd ho; have Hb := hd hb
          clear ho hb hr
          have hsr : SRat wr b (off + k * 5) ⟨qa, qb, qc, qd, qe⟩ := ⟨c0, c1, c2, c3, c4⟩
          have HSR := hd hsr
          have CI := hd (fun w1 h => l06Is_any ⟨qa, qb, qc, qd, qe⟩ b (off + k * 5) w1 h)
          clear hsr c0 c1 c2 c3 c4
          cases hcm : validS ⟨qa, qb, qc, qd, qe⟩ with
          | false =>
            simp only [hcm] at CI
            have H := hd (HMB.out hcm)
            clear hcm
            go_wp2_with (go_at_call 40; refine (CI.out _ HSR.out).mono ?_; rintro e w2 ⟨rfl, m, rfl⟩)
            go_ret2
            rw [H.out]
            exact ⟨_, rfl, World.ownsRow_nil _ _ _ _, below_drewN Hb.out _⟩
          | true =>
            simp only [hcm] at CI
            have HA2 := hd (HAL.out hcm)
            obtain ⟨b1, b2, b3, b4, b5⟩ := valid_bd hcm
            have CC := hd (fun w1 h => l06Count_any b (off + k * 5) qa qb qc qd qe w1 h b1 b2 b3 b4 b5)
            have htk := HTK.out
            rw [show cntS ⟨qa, qb, qc, qd, qe⟩ = (cS ⟨qb, qc, qd, qe⟩ qa.toNat ShiftPt.start : Int) by rw [cntS, hcm]; rfl] at htk
            generalize (cS ⟨qb, qc, qd, qe⟩ qa.toNat ShiftPt.start : Int) = c at *
            have HT := hd htk
            clear hcm htk HTK b1 b2 b3 b4 b5
            go_wp2_with (first
              | (go_at_call 40; refine (CI.out _ HSR.out).mono ?_; rintro e w2 ⟨rfl, mm, hw2⟩; have hb2 : Below wr.heap.size wr w2 := (by rw [hw2]; exact below_drewN (Below.refl _ _) mm); clear hw2)
              | (go_at_call 41; refine (CC.out _ (HSR.out.below hb2)).mono ?_; rintro e w3 ⟨rfl, hb3'⟩; have hb3 : Below wr.heap.size wr w3 := below_tr hb3' hb2)
              | (at_builtin; go_must (refine wpList_app_int _ _ _ rfl _ _ rfl w.heap.size k _ _ rfl (own_below Ho.out hb3) rfl _ rfl (by simp) (by omega) (by have := Hb.out.size; have := hb3.size; omega) ?_); intro v' w1 ho1 hg1 hap))
            go_roundw
            case rel =>
              refine ⟨k + 1, by omega, by go_num, HA2, ?_, below_row hg1 (below_tr hb3 Hb.out) (own_row Ho.out (Nat.le_refl _))⟩
              rw [HT.out, List.map_append]
              exact ho1
            case measure => simp [intOf]; omega
        · have e : k = n := by omega
          subst e
          have H := hd (MY.out (all_whole hall.out (by have := Hn.out; omega)))
          rw [List.take_of_length_le (by have := Hn.out; omega)] at ho
          go_wp2
          go_ret2
          rw [H.out]
          refine ⟨_, rfl, ?_, hb⟩
          simp only [LN.out]
          exact ho
  · have H := hd (MSh5_no (wk := wk) (show sh5Ok wk ms = false by rw [sh5Ok, decide_eq_false h8, Bool.false_and]))
    by_cases h9 : (ms.length : Int) < 1
    · go_enter Try.func21, Try.ntmps21
      go_wp2
      go_ret2
      rw [H.out]
      exact ⟨_, rfl, World.ownsRow_nil _ _ _ _, Below.refl _ _⟩
    · have h8' : (16 : Int) < (ms.length : Int) := by omega
      clear h8
      go_enter Try.func21, Try.ntmps21
      go_wp2
      go_ret2
      rw [H.out]
      exact ⟨_, rfl, World.ownsRow_nil _ _ _ _, Below.refl _ _⟩

set_option maxHeartbeats 400000 in
/-- 'laws.sameInts': the lists are equal. -/
theorem sameInts_any (v u : Value) (xs ys : List Int) (w : World) (hs : Sl w 1 v xs.length (xs.map vi)) (ht : Sl w 1 u ys.length (ys.map vi)) :
    Calls Try.prog 22 #[v, u] w (Draws (.bool (xs == ys)) w) := by
  obtain ⟨A, cap, rfl, hcap, hr⟩ := hs
  obtain ⟨A', cap', rfl, hcap', hr'⟩ := ht
  have hm := hr.2.1
  have hm' := hr'.2.1
  unfold maxLen at hm hm'
  generalize hn : xs.length = n at *
  generalize hn' : ys.length = n' at *
  have Hn := hd hn.symm
  have Hn' := hd hn'.symm
  clear hn hn'
  by_cases hnn : n = n'
  · subst hnn
    go_enter Try.func22, Try.ntmps22
    go_wp2
    go_loopw [5] (fun i wr => ∃ k : Nat, k ≤ n ∧ i = .int .i64 k ∧ Hid (xs.take k = ys.take k) ∧ ∃ m, wr = w.drewN m) (fun i _ => n - (intOf i).toNat)
    case atStart => exact ⟨0, by omega, rfl, by simp [Hid], 0, rfl⟩
    case round =>
      obtain ⟨k, hk, rfl, he, m, rfl⟩ := hrel
      by_cases hlt : k < n
      · obtain ⟨b, off, rfl, hc⟩ := hr.int hlt
        obtain ⟨b', off', rfl, hc'⟩ := hr'.int hlt
        have i1 : (0 : Int) ≤ (k : Int) := by omega
        have i2 : (k : Int) < (n : Int) := by omega
        go_wp2
        go_quiet (fail)
        go_wp2
        · have h : (xs[k]?.getD 0 != ys[k]?.getD 0) = true := by assumption
          rw [bne_iff_ne] at h
          go_ret
          exact ⟨ret_bool (by simpa using ne_of_getD h), drew2 _ _ _⟩
        · have h : (xs[k]?.getD 0 != ys[k]?.getD 0) = false := by assumption
          rw [bne_eq_false_iff_eq] at h
          go_roundw
          case rel => exact ⟨k + 1, by omega, by go_num, take_succ_eq he.out (by have := Hn.out; omega) (by have := Hn'.out; omega) h, _, rfl⟩
          case measure => simp [intOf]; omega
      · have hkn : k = n := by omega
        subst hkn
        go_wp2
        go_ret
        exact ⟨ret_bool (by simpa using (eq_of_take he.out Hn.out.symm Hn'.out.symm)), _, rfl⟩
  · go_enter Try.func22, Try.ntmps22
    have hne : ¬ ((n : Int) = (n' : Int)) := by omega
    go_wp2
    go_ret
    refine ⟨ret_bool ?_, 0, rfl⟩
    symm
    rw [beq_eq_false_iff_ne]
    rintro rfl
    exact hnn (Hn.out.trans Hn'.out.symm)

theorem sameInts_b (v u : Value) (xs ys : List Int) (w : World) (hs : Sl w 1 v xs.length (xs.map vi)) (ht : Sl w 1 u ys.length (ys.map vi)) :
    Calls Try.prog 22 #[v, u] w fun r w' => r = .returned (.bool (xs == ys)) ∧ Below w.heap.size w w' :=
  (sameInts_any v u xs ys w hs ht).mono fun _ _ ⟨h, m, e⟩ => ⟨h, e ▸ below_drewN (Below.refl _ _) m⟩
end Go.Proofs.Ytldehffhpblliaa
