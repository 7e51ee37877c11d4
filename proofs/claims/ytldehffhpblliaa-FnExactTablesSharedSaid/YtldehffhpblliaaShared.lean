/- The counts of many lists of rules, on both sides. -/
import Derived.Test.YtldehffhpblliaaProg
import Derived.Test.YtldehffhpblliaaCount
namespace Go.Proofs.Ytldehffhpblliaa
open Go.RowKit Plain
set_option linter.unusedVariables false
set_option linter.unusedSimpArgs false
attribute [local go_sem ↓] Go.wp_at_zero Go.wp_at_succ

def sharedOk (ev p wk : Int) (ms : List (Value × List Q4)) : Bool := decide ((ms.length : Int) ≤ 8) && (inR wk 1 8 && ms.all fun m => (MCount ev m.2 p).2)
def sharedL (ev p : Int) (ms : List (Value × List Q4)) : List Int := ms.map fun m => (MCount ev m.2 p).1
def MShared (ev p wk : Int) (ms : List (Value × List Q4)) : List Int × Bool := if sharedOk ev p wk ms then (sharedL ev p ms, true) else ([], false)
theorem MShared_no {ev p wk : Int} {ms : List (Value × List Q4)} (h : sharedOk ev p wk ms = false) : MShared ev p wk ms = ([], false) := by rw [MShared, h]; rfl
theorem MShared_bad {ev p wk : Int} {ms : List (Value × List Q4)} {k : Nat} {m : Value × List Q4} (hk : ms[k]? = some m) (h : (MCount ev m.2 p).2 = false) : MShared ev p wk ms = ([], false) :=
  MShared_no (by rw [sharedOk, show (ms.all fun m => (MCount ev m.2 p).2) = false from all_false_of hk h, Bool.and_false, Bool.and_false])
theorem MShared_yes {ev p wk : Int} {ms : List (Value × List Q4)} (h1 : (ms.length : Int) ≤ 8) (h2 : inR wk 1 8 = true) (h3 : (ms.all fun m => (MCount ev m.2 p).2) = true) : MShared ev p wk ms = (sharedL ev p ms, true) := by
  rw [MShared, sharedOk, decide_eq_true h1, h2, h3]; rfl
theorem shared_take {ev p : Int} {ms : List (Value × List Q4)} {k : Nat} {m : Value × List Q4} (hk : ms[k]? = some m) : sharedL ev p (ms.take (k + 1)) = sharedL ev p (ms.take k) ++ [(MCount ev m.2 p).1] := by
  rw [List.take_add_one, hk]; simp [sharedL]

set_option maxHeartbeats 400000 in
theorem areWorkers_any (n : Int) (w : World) : Calls Try.prog 36 #[.int .i64 n] w fun r w' => r = .returned (.bool (inR n 1 8)) ∧ w' = w := by
  go_enter Try.func36, Try.ntmps36
  go_wp2_with (go_at_call 47; refine (within_any _ _ _ _).mono ?_; rintro e w' ⟨rfl, rfl⟩)
  go_ret
  exact ⟨rfl, rfl⟩

set_option maxHeartbeats 1000000 in
set_option maxRecDepth 100000 in
theorem TablesShared_any (w : World) (ev p wk : Int) (v : Value) (ms : List (Value × List Q4)) (s : Sl w 1 v ms.length (ms.map Prod.fst)) (hq : ∀ m ∈ ms, Sl w 4 m.1 m.2.length (q4s m.2)) :
    Calls Try.prog 11 #[.int .i64 ev, v, .int .i64 p, .int .i64 wk] w (OutL 2 1 (MShared ev p wk ms).1.length ((MShared ev p wk ms).1.map vi) (fun u => .tuple #[u, .bool (MShared ev p wk ms).2]) w) := by
  obtain ⟨A, cap, rfl, hcap, hr⟩ := s
  have hm0 := hr.2.1
  unfold maxLen at hm0
  by_cases h8 : (ms.length : Int) ≤ 8
  · cases hwk : inR wk 1 8 with
    | false =>
      have H := hd (MShared_no (ev := ev) (p := p) (ms := ms) (show sharedOk ev p wk ms = false by rw [sharedOk, hwk, Bool.false_and, Bool.and_false]))
      have A3 := hd (fun w' => (show Calls Try.prog 36 #[.int .i64 wk] w' fun r w2 => r = .returned (.bool false) ∧ w2 = w' from hwk ▸ areWorkers_any wk w'))
      clear hwk
      go_enter Try.func11, Try.ntmps11
      go_wp2_with (first | (go_at_call 36; refine (A3.out _).mono ?_; rintro e w' ⟨rfl, hw⟩; replace hw := hw.symm; subst hw))
      go_ret2
      rw [H.out]
      exact ⟨_, rfl, World.ownsRow_nil _ _ _ _, Below.refl _ _⟩
    | true =>
      have A3 := hd (fun w' => (show Calls Try.prog 36 #[.int .i64 wk] w' fun r w2 => r = .returned (.bool true) ∧ w2 = w' from hwk ▸ areWorkers_any wk w'))
      have C := hd (fun w1 (m : Value × List Q4) (hm : m ∈ ms) hb => CountTables_any w1 ev m.1 m.2 ((hq m hm).below hb) p)
      have MB := hd (fun k m h1 h2 => MShared_bad (ev := ev) (p := p) (wk := wk) (ms := ms) (k := k) (m := m) h1 h2)
      have MY := hd (fun h => MShared_yes (ev := ev) (p := p) (wk := wk) (ms := ms) h8 hwk h)
      have TK := hd (fun k m h => shared_take (ev := ev) (p := p) (ms := ms) (k := k) (m := m) h)
      have GT := hd (fun (k : Nat) (h : k < ms.length) => (show ∃ m, ms[k]? = some m ∧ m ∈ ms from ⟨ms[k], List.getElem?_eq_getElem h, List.getElem_mem h⟩))
      have CE := hd (fun (k : Nat) (m : Value × List Q4) (h : ms[k]? = some m) => (show (ms.map Prod.fst)[k]? = some m.1 by rw [List.getElem?_map, h]; rfl))
      have LN := hd (show (sharedL ev p ms).length = ms.length by simp [sharedL])
      clear hwk hq
      generalize hn : ms.length = n at *
      have Hn := hd hn
      clear hn
      go_enter Try.func11, Try.ntmps11
      go_wp2_with (first | (go_at_call 36; refine (A3.out _).mono ?_; rintro e w' ⟨rfl, hw⟩; replace hw := hw.symm; subst hw))
      have hstart := World.ownsRow_made (size := 1) w #[] 0 (Nat.le_refl _) (by unfold maxLen; omega) rfl (e := 2)
      go_loopw [10, 26] (fun out ix wr => ∃ k : Nat, k ≤ n ∧ ix = .int .i64 k ∧ Hid (((ms.take k).all fun m => (MCount ev m.2 p).2) = true) ∧ wr.ownsRow w.heap.size 2 1 out k ((sharedL ev p (ms.take k)).map vi) ∧ Below w.heap.size w wr) (fun _ ix _ => n - (intOf ix).toNat)
      case atStart => exact ⟨0, by omega, rfl, hd (by simp), by simpa [sharedL] using hstart, (Below.refl _ _).alloc (Nat.le_refl _) _⟩
      case round =>
        obtain ⟨k, hk, rfl, hall, ho, hb⟩ := hrel
        clear hstart
        by_cases hlt : k < n
        · obtain ⟨m, hm, hmem⟩ := GT.out k hlt
          obtain ⟨b, off, rfl, hcell⟩ := (hr.below hb).2.2 (by omega)
          have hc := hcell k _ (CE.out k m hm)
          have CC := C.out wr m hmem hb
          have HMB := hd (MB.out k m hm)
          have HTK := hd (TK.out k m hm)
          have HAL := hd (fun h => all_take_of (p := fun m : Value × List Q4 => (MCount ev m.2 p).2) hall.out hm h)
          obtain ⟨mv, ml⟩ := m
          simp only at hc CC
          have i1 : (0 : Int) ≤ (k : Int) := by omega
          have i2 : (k : Int) < (n : Int) := by omega
          have Ho := hd ho; have Hb := hd hb
          clear hcell ho hb hr
          cases hcm : (MCount ev ml p).2 with
          | false =>
            rw [hcm] at CC
            have HC := hd CC
            have H := hd (HMB.out hcm)
            clear CC hcm
            go_wp2_with (go_at_call 37; refine HC.out.mono ?_; rintro e w2 ⟨rfl, hb2⟩)
            go_ret2
            rw [H.out]
            exact ⟨_, rfl, World.ownsRow_nil _ _ _ _, below_tr hb2 Hb.out⟩
          | true =>
            rw [hcm] at CC
            have HC := hd CC
            have HA2 := hd (HAL.out hcm)
            have htk := HTK.out
            simp only at htk
            generalize (MCount ev ml p).1 = c at *
            have HT := hd htk
            clear CC hcm htk HTK
            go_wp2_with (first
              | (go_at_call 37; refine HC.out.mono ?_; rintro e w2 ⟨rfl, hb2⟩)
              | (at_builtin; go_must (refine wpList_app_int _ _ _ rfl _ _ rfl w.heap.size k _ _ rfl (own_below Ho.out hb2) rfl _ rfl (by simp) (by omega) (by have := Hb.out.size; have := hb2.size; omega) ?_); intro v' w1 ho1 hg1 hap))
            go_roundw
            case rel =>
              refine ⟨k + 1, by omega, by go_num, HA2, ?_, below_row hg1 (below_tr hb2 Hb.out) (own_row Ho.out (Nat.le_refl _))⟩
              rw [HT.out, List.map_append]
              exact ho1
            case measure => simp [intOf]; omega
        · have e : k = n := by omega
          subst e
          have H := hd (MY.out (all_whole hall.out (by have := Hn.out; omega)))
          rw [List.take_of_length_le (by have := Hn.out; omega)] at ho
          go_wp2
          go_ret2
          rw [H.out]
          refine ⟨_, rfl, ?_, hb⟩
          simp only [LN.out]
          exact ho
  · have H := hd (MShared_no (ev := ev) (p := p) (wk := wk) (show sharedOk ev p wk ms = false by rw [sharedOk, decide_eq_false h8, Bool.false_and]))
    have h8' : (8 : Int) < (ms.length : Int) := by omega
    go_enter Try.func11, Try.ntmps11
    go_wp2
    go_ret2
    rw [H.out]
    exact ⟨_, rfl, World.ownsRow_nil _ _ _ _, Below.refl _ _⟩

set_option maxHeartbeats 1000000 in
set_option maxRecDepth 100000 in
theorem specTablesShared_any (w : World) (ev p wk : Int) (v : Value) (ms : List (Value × List Q4)) (s : Sl w 1 v ms.length (ms.map Prod.fst)) (hq : ∀ m ∈ ms, Sl w 4 m.1 m.2.length (q4s m.2)) :
    Calls Try.prog 9 #[.int .i64 ev, v, .int .i64 p, .int .i64 wk] w (OutL 2 1 (MShared ev p wk ms).1.length ((MShared ev p wk ms).1.map vi) (fun u => .tuple #[u, .bool (MShared ev p wk ms).2]) w) := by
  obtain ⟨A, cap, rfl, hcap, hr⟩ := s
  have hm0 := hr.2.1
  unfold maxLen at hm0
  by_cases h8 : (ms.length : Int) ≤ 8
  · cases hwk : inR wk 1 8 with
    | false =>
      have H := hd (MShared_no (ev := ev) (p := p) (ms := ms) (show sharedOk ev p wk ms = false by rw [sharedOk, hwk, Bool.false_and, Bool.and_false]))
      have A3 := hd (fun w' => l00In_f wk 1 8 w' hwk)
      clear hwk
      go_enter Try.func9, Try.ntmps9
      go_wp2_with (first | (go_at_call 33; refine (A3.out _).mono ?_; rintro e w' ⟨rfl, hw⟩; replace hw := hw.symm; subst hw))
      go_ret2
      rw [H.out]
      exact ⟨_, rfl, World.ownsRow_nil _ _ _ _, Below.refl _ _⟩
    | true =>
      have A3 := hd (fun w' => l00In_t wk 1 8 w' hwk)
      have C := hd (fun w1 (m : Value × List Q4) (hm : m ∈ ms) hb => specCountTables_any w1 ev m.1 m.2 ((hq m hm).below hb) p)
      have MB := hd (fun k m h1 h2 => MShared_bad (ev := ev) (p := p) (wk := wk) (ms := ms) (k := k) (m := m) h1 h2)
      have MY := hd (fun h => MShared_yes (ev := ev) (p := p) (wk := wk) (ms := ms) h8 hwk h)
      have TK := hd (fun k m h => shared_take (ev := ev) (p := p) (ms := ms) (k := k) (m := m) h)
      have GT := hd (fun (k : Nat) (h : k < ms.length) => (show ∃ m, ms[k]? = some m ∧ m ∈ ms from ⟨ms[k], List.getElem?_eq_getElem h, List.getElem_mem h⟩))
      have CE := hd (fun (k : Nat) (m : Value × List Q4) (h : ms[k]? = some m) => (show (ms.map Prod.fst)[k]? = some m.1 by rw [List.getElem?_map, h]; rfl))
      have LN := hd (show (sharedL ev p ms).length = ms.length by simp [sharedL])
      clear hwk hq
      generalize hn : ms.length = n at *
      have Hn := hd hn
      clear hn
      go_enter Try.func9, Try.ntmps9
      go_wp2_with (first | (go_at_call 33; refine (A3.out _).mono ?_; rintro e w' ⟨rfl, hw⟩; replace hw := hw.symm; subst hw))
      have hstart := World.ownsRow_made (size := 1) w #[] 0 (Nat.le_refl _) (by unfold maxLen; omega) rfl (e := 2)
      go_loopw [10, 25] (fun out ix wr => ∃ k : Nat, k ≤ n ∧ ix = .int .i64 k ∧ Hid (((ms.take k).all fun m => (MCount ev m.2 p).2) = true) ∧ wr.ownsRow w.heap.size 2 1 out k ((sharedL ev p (ms.take k)).map vi) ∧ Below w.heap.size w wr) (fun _ ix _ => n - (intOf ix).toNat)
      case atStart => exact ⟨0, by omega, rfl, hd (by simp), by simpa [sharedL] using hstart, (Below.refl _ _).alloc (Nat.le_refl _) _⟩
      case round =>
        obtain ⟨k, hk, rfl, hall, ho, hb⟩ := hrel
        clear hstart
        by_cases hlt : k < n
        · obtain ⟨m, hm, hmem⟩ := GT.out k hlt
          obtain ⟨b, off, rfl, hcell⟩ := (hr.below hb).2.2 (by omega)
          have hc := hcell k _ (CE.out k m hm)
          have CC := C.out wr m hmem hb
          have HMB := hd (MB.out k m hm)
          have HTK := hd (TK.out k m hm)
          have HAL := hd (fun h => all_take_of (p := fun m : Value × List Q4 => (MCount ev m.2 p).2) hall.out hm h)
          obtain ⟨mv, ml⟩ := m
          simp only at hc CC
          have i1 : (0 : Int) ≤ (k : Int) := by omega
          have i2 : (k : Int) < (n : Int) := by omega
          have Ho := hd ho; have Hb := hd hb
          clear hcell ho hb hr
          cases hcm : (MCount ev ml p).2 with
          | false =>
            rw [hcm] at CC
            have HC := hd CC
            have H := hd (HMB.out hcm)
            clear CC hcm
            go_wp2_with (go_at_call 34; refine HC.out.mono ?_; rintro e w2 ⟨rfl, hb2⟩)
            go_ret2
            rw [H.out]
            exact ⟨_, rfl, World.ownsRow_nil _ _ _ _, below_tr hb2 Hb.out⟩
          | true =>
            rw [hcm] at CC
            have HC := hd CC
            have HA2 := hd (HAL.out hcm)
            have htk := HTK.out
            simp only at htk
            generalize (MCount ev ml p).1 = c at *
            have HT := hd htk
            clear CC hcm htk HTK
            go_wp2_with (first
              | (go_at_call 34; refine HC.out.mono ?_; rintro e w2 ⟨rfl, hb2⟩)
              | (at_builtin; go_must (refine wpList_app_int _ _ _ rfl _ _ rfl w.heap.size k _ _ rfl (own_below Ho.out hb2) rfl _ rfl (by simp) (by omega) (by have := Hb.out.size; have := hb2.size; omega) ?_); intro v' w1 ho1 hg1 hap))
            go_roundw
            case rel =>
              refine ⟨k + 1, by omega, by go_num, HA2, ?_, below_row hg1 (below_tr hb2 Hb.out) (own_row Ho.out (Nat.le_refl _))⟩
              rw [HT.out, List.map_append]
              exact ho1
            case measure => simp [intOf]; omega
        · have e : k = n := by omega
          subst e
          have H := hd (MY.out (all_whole hall.out (by have := Hn.out; omega)))
          rw [List.take_of_length_le (by have := Hn.out; omega)] at ho
          go_wp2
          go_ret2
          rw [H.out]
          refine ⟨_, rfl, ?_, hb⟩
          simp only [LN.out]
          exact ho
  · have H := hd (MShared_no (ev := ev) (p := p) (wk := wk) (show sharedOk ev p wk ms = false by rw [sharedOk, decide_eq_false h8, Bool.false_and]))
    have h8' : (8 : Int) < (ms.length : Int) := by omega
    go_enter Try.func9, Try.ntmps9
    go_wp2
    go_ret2
    rw [H.out]
    exact ⟨_, rfl, World.ownsRow_nil _ _ _ _, Below.refl _ _⟩

set_option maxHeartbeats 400000 in
/-- 'laws.sameInts': the lists are equal. -/
theorem sameInts_any (v u : Value) (xs ys : List Int) (w : World) (hs : Sl w 1 v xs.length (xs.map vi)) (ht : Sl w 1 u ys.length (ys.map vi)) :
    Calls Try.prog 22 #[v, u] w (Draws (.bool (xs == ys)) w) := by
  obtain ⟨A, cap, rfl, hcap, hr⟩ := hs
  obtain ⟨A', cap', rfl, hcap', hr'⟩ := ht
  have hm := hr.2.1
  have hm' := hr'.2.1
  unfold maxLen at hm hm'
  generalize hn : xs.length = n at *
  generalize hn' : ys.length = n' at *
  have Hn := hd hn.symm
  have Hn' := hd hn'.symm
  clear hn hn'
  by_cases hnn : n = n'
  · subst hnn
    go_enter Try.func22, Try.ntmps22
    go_wp2
    go_loopw [5] (fun i wr => ∃ k : Nat, k ≤ n ∧ i = .int .i64 k ∧ Hid (xs.take k = ys.take k) ∧ ∃ m, wr = w.drewN m) (fun i _ => n - (intOf i).toNat)
    case atStart => exact ⟨0, by omega, rfl, by simp [Hid], 0, rfl⟩
    case round =>
      obtain ⟨k, hk, rfl, he, m, rfl⟩ := hrel
      by_cases hlt : k < n
      · obtain ⟨b, off, rfl, hc⟩ := hr.int hlt
        obtain ⟨b', off', rfl, hc'⟩ := hr'.int hlt
        have i1 : (0 : Int) ≤ (k : Int) := by omega
        have i2 : (k : Int) < (n : Int) := by omega
        go_wp2
        go_quiet (fail)
        go_wp2
        · have h : (xs[k]?.getD 0 != ys[k]?.getD 0) = true := by assumption
          rw [bne_iff_ne] at h
          go_ret
          exact ⟨ret_bool (by simpa using ne_of_getD h), drew2 _ _ _⟩
        · have h : (xs[k]?.getD 0 != ys[k]?.getD 0) = false := by assumption
          rw [bne_eq_false_iff_eq] at h
          go_roundw
          case rel => exact ⟨k + 1, by omega, by go_num, take_succ_eq he.out (by have := Hn.out; omega) (by have := Hn'.out; omega) h, _, rfl⟩
          case measure => simp [intOf]; omega
      · have hkn : k = n := by omega
        subst hkn
        go_wp2
        go_ret
        exact ⟨ret_bool (by simpa using (eq_of_take he.out Hn.out.symm Hn'.out.symm)), _, rfl⟩
  · go_enter Try.func22, Try.ntmps22
    have hne : ¬ ((n : Int) = (n' : Int)) := by omega
    go_wp2
    go_ret
    refine ⟨ret_bool ?_, 0, rfl⟩
    symm
    rw [beq_eq_false_iff_ne]
    rintro rfl
    exact hnn (Hn.out.trans Hn'.out.symm)

theorem sameInts_b (v u : Value) (xs ys : List Int) (w : World) (hs : Sl w 1 v xs.length (xs.map vi)) (ht : Sl w 1 u ys.length (ys.map vi)) :
    Calls Try.prog 22 #[v, u] w fun r w' => r = .returned (.bool (xs == ys)) ∧ Below w.heap.size w w' :=
  (sameInts_any v u xs ys w hs ht).mono fun _ _ ⟨h, m, e⟩ => ⟨h, e ▸ below_drewN (Below.refl _ _) m⟩
end Go.Proofs.Ytldehffhpblliaa
