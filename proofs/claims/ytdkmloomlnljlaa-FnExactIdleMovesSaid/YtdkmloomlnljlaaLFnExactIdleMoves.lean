/- Whatever trips, moves and vehicles are given, the program's IdleMoves and the reference's return the same sum and bool, and leave the arguments alone: the law returns true. No condition. -/
import Derived.Test.YtdkmloomlnljlaaRows
import Derived.Test.YtdkmloomlnljlaaIdleJ
import Derived.Test.YtdkmloomlnljlaaSortU
import Derived.Test.YtdkmloomlnljlaaOpen
namespace Go.Proofs.Ytdkmloomlnljlaa.lFnExactIdleMoves
open Go.ChangeShapes Go.WideShapes Go.ChangeAt Go.RowKit Go.Proofs.Ytdkmloomlnljlaa Plain
set_option linter.unusedVariables false
set_option linter.unusedSimpArgs false
attribute [local go_sem ↓] Go.wp_at_zero Go.wp_at_succ

def foldI (l : List Q4) (ms vs : List Int) (k : Nat) : Option (List Int × Int) := idleF (fitV l ms) (mvV l ms) (fun x => (vs.getD x 0).toNat) (ordO l) k
def okI (l : List Q4) (ms vs : List Int) : Bool := tripsB l && (movesB ms && manyIn vs l.length l.length 0 23)
def M (l : List Q4) (ms vs : List Int) : Int × Bool := if okI l ms vs then (match foldI l ms vs l.length with | some r => (r.2, true) | none => (0, false)) else (0, false)
theorem M_no {l : List Q4} {ms vs : List Int} (h : okI l ms vs = false) : M l ms vs = (0, false) := by rw [M, h]; rfl
theorem M_some {l : List Q4} {ms vs : List Int} (h : okI l ms vs = true) {la : List Int} {s : Int} (e : foldI l ms vs l.length = some (la, s)) : M l ms vs = (s, true) := by rw [M, h, e]; rfl
theorem M_none {l : List Q4} {ms vs : List Int} (h : okI l ms vs = true) (e : foldI l ms vs l.length = none) : M l ms vs = (0, false) := by rw [M, h, e]; rfl
theorem many_at {vs : List Int} {n : Nat} (h : manyIn vs n n 0 23 = true) : vs.length = n ∧ ∀ x, x < n → 0 ≤ vs.getD x 0 ∧ vs.getD x 0 ≤ 23 := by
  simp only [manyIn, Bool.and_eq_true, decide_eq_true_eq, List.all_eq_true, inR_iff] at h
  obtain ⟨h1, h2, h3⟩ := h
  refine ⟨by omega, fun x hx => ?_⟩
  have := h3 _ (List.getElem_mem (show x < vs.length by omega))
  rw [List.getD_eq_getElem?_getD, List.getElem?_eq_getElem (by omega)]
  exact this

set_option maxHeartbeats 4000000 in
set_option maxRecDepth 100000 in
theorem impl_any (w : World) (v : Value) (l : List Q4) (_i : ∀ q ∈ l, q.I64) (_b : l.length ≤ 1048576) (s : Sl w 4 v l.length (q4s l)) (u : Value) (ms : List Int) (_j : ∀ x ∈ ms, I64 x) (_c : ms.length ≤ 1048576) (t : Sl w 1 u ms.length (ms.map vi)) (z : Value) (vs : List Int) (_k : ∀ x ∈ vs, I64 x) (_d : vs.length ≤ 1048576) (r : Sl w 1 z vs.length (vs.map vi)) :
    Calls Try.prog 8 #[v, u, z] w fun e w' => e = .returned (.tuple #[.int .i64 (M l ms vs).1, .bool (M l ms vs).2]) ∧ Below w.heap.size w w' := by
  cases hok : okI l ms vs with
  | true =>
    have h := hok
    rw [okI, Bool.and_eq_true, Bool.and_eq_true] at h
    obtain ⟨ht, h2, h3⟩ := h
    obtain ⟨hvl, hv⟩ := many_at h3
    obtain ⟨n1, n24⟩ := trips_len ht
    have hml : ms.length = 64 := (movesB_iff.1 h2).1
    rw [hml] at t
    rw [hvl] at r
    refine (idle24_any l ht ms h2 vs l.length rfl hvl hv n1 n24 w v u z s t r).mono ?_
    rintro e w' ⟨hb, ⟨he, rfl⟩ | ⟨la, sm, he, rfl⟩⟩
    · rw [M_none hok he]; exact ⟨rfl, hb⟩
    · rw [M_some hok he]; exact ⟨rfl, hb⟩
  | false =>
    rw [M_no hok]
    have A1 := hd (fun w' (h : Below w.heap.size w w') => AreTrips_any v l w' (s.below h))
    have A2 := hd (fun w' (h : Below w.heap.size w w') => AreMoves_any u ms w' (t.below h))
    have A3 := hd (fun w' (h : Below w.heap.size w w') => areMany_any z vs l.length l.length 0 23 w' (r.below h))
    have hlen := s
    obtain ⟨P1, c1, rfl, hc1, hr1⟩ := id s
    obtain ⟨P2, c2, rfl, hc2, hr2⟩ := id t
    obtain ⟨P3, c3, rfl, hc3, hr3⟩ := id r
    have k1 : (w.alloc (.cells #[.slice P1 l.length c1] 27)).cell? ⟨w.heap.size, 0, none⟩ = some (.slice P1 l.length c1) := (World.cell?_alloc_new ..).trans rfl
    have HB1 := hd (show Below w.heap.size w (w.alloc (.cells #[.slice P1 l.length c1] 27)) from (Below.refl _ _).alloc (Nat.le_refl _) _)
    have K1 := hd k1
    rw [okI] at hok
    generalize tripsB l = x1 at *
    generalize movesB ms = x2 at *
    generalize manyIn vs l.length l.length 0 23 = x3 at *
    clear s t r hr1 hr2 hr3 k1 hlen
    generalize l.length = n at *
    generalize ms.length = n2 at *
    generalize vs.length = n3 at *
    go_enter Try.func8, Try.ntmps8
    go_upto_region 1 with fail
    obtain ⟨W, hW⟩ : ∃ W, W = w.alloc (.cells #[.slice P1 n c1] 27) := ⟨_, rfl⟩
    rw [← hW] at K1 HB1 ⊢
    clear hW
    have k1 := K1.out
    go_wp2_with fail
    go_at_call 16
    refine (A1.out W HB1.out).mono ?_; rintro e w2 ⟨rfl, hb2⟩
    have B2 := hd (below_tr hb2 HB1.out)
    have k2 := below_at hb2 K1.out
    have K2 := hd k2
    clear k1 hb2 A1
    cases x1 with
    | false =>
      go_wp2
      go_ret2
      exact ⟨rfl, B2.out⟩
    | true =>
    go_wp2_with fail
    go_at_call 17
    refine (A2.out w2 B2.out).mono ?_; rintro e w3 ⟨rfl, hw⟩
    subst hw
    clear A2
    cases x2 with
    | false =>
      go_wp2
      go_ret2
      exact ⟨rfl, B2.out⟩
    | true =>
    obtain rfl : x3 = false := by simpa using hok
    go_wp2_with fail
    go_at_call 18
    refine (A3.out w2 B2.out).mono ?_; rintro e w3 ⟨rfl, hw⟩
    subst hw
    clear A3 k2
    go_wp2
    go_ret2
    exact ⟨rfl, B2.out⟩

theorem fold_last {l : List Q4} {ms vs : List Int} {n b : Nat} {la : List Int} {sm : Int} (hn : n = l.length) (hv : ∀ x, x < n → 0 ≤ vs.getD x 0 ∧ vs.getD x 0 ≤ 23) (hb : b < n) (e : foldI l ms vs b = some (la, sm)) : LastOk (fun x => (vs.getD x 0).toNat) (ordO l) b la :=
  last_of' (f := fitV l ms) (mv := mvV l ms) (V := fun x => (vs.getD x 0).toNat) (O := ordO l) (n := n) (fun q hq => by
    have h1 := hv (ordO l q) (by rw [hn]; exact ord_in l (by omega))
    show (vs.getD (ordO l q) 0).toNat < 24
    omega) b (by omega) la sm e
theorem fold_new {l : List Q4} {ms vs : List Int} {n b : Nat} {la : List Int} {sm : Int} (hn : n = l.length) (hv : ∀ x, x < n → 0 ≤ vs.getD x 0 ∧ vs.getD x 0 ≤ 23) (hb : b < n) (e : foldI l ms vs b = some (la, sm)) (h : ∀ m, m < b → (vs.getD (ordO l m) 0).toNat ≠ (vs.getD (ordO l b) 0).toNat) : ∃ la', foldI l ms vs (b + 1) = some (la', sm) := by
  have L := fold_last hn hv hb e
  have hB := hv (ordO l b) (by rw [hn]; exact ord_in l (by omega))
  rw [foldI] at e
  rw [foldI, idleF, e]
  simp only
  rcases L.at' (vs.getD (ordO l b) 0).toNat (by omega) with ⟨h1, _⟩ | ⟨m, hm, _, he, _⟩
  · rw [if_pos (by omega)]; exact ⟨_, rfl⟩
  · exact absurd he (h m hm)
theorem fold_old {l : List Q4} {ms vs : List Int} {n b c : Nat} {la : List Int} {sm : Int} (hn : n = l.length) (hv : ∀ x, x < n → 0 ≤ vs.getD x 0 ∧ vs.getD x 0 ≤ 23) (hb : b < n) (e : foldI l ms vs b = some (la, sm)) (hc : c < b) (hcv : (vs.getD (ordO l c) 0).toNat = (vs.getD (ordO l b) 0).toNat) (h : ∀ m, c < m → m < b → (vs.getD (ordO l m) 0).toNat ≠ (vs.getD (ordO l b) 0).toNat) :
    (fitV l ms (ordO l c) (ordO l b) = true → ∃ la', foldI l ms vs (b + 1) = some (la', sm + mvV l ms (ordO l c) (ordO l b))) ∧ (fitV l ms (ordO l c) (ordO l b) = false → foldI l ms vs n = none) := by
  have L := fold_last hn hv hb e
  have hB := hv (ordO l b) (by rw [hn]; exact ord_in l (by omega))
  have st : foldI l ms vs (b + 1) = if fitV l ms (ordO l c) (ordO l b) then some (la.set (vs.getD (ordO l b) 0).toNat (ordO l b : Int), sm + mvV l ms (ordO l c) (ordO l b)) else none := by
    rw [foldI] at e
    rw [foldI, idleF, e]
    simp only
    rcases L.at' (vs.getD (ordO l b) 0).toNat (by omega) with ⟨_, h1⟩ | ⟨m, hm, h2, h3, h4⟩
    · exact absurd hcv (h1 c hc)
    · have em : m = c := by
        rcases Nat.lt_trichotomy m c with h5 | h5 | h5
        · exact absurd hcv (h4 c h5 hc)
        · exact h5
        · exact absurd h3 (h m h5 hm)
      subst em
      rw [if_neg (by omega), h2, Int.toNat_natCast]
  refine ⟨fun hf => ?_, fun hf => ?_⟩
  · rw [st, if_pos hf]; exact ⟨_, rfl⟩
  · rw [if_neg (by rw [hf]; decide)] at st
    exact idle_stop st (by omega)
theorem fold_one {l : List Q4} {ms vs : List Int} {n : Nat} (hn : n = l.length) (n1 : 1 ≤ n) (hv : ∀ x, x < n → 0 ≤ vs.getD x 0 ∧ vs.getD x 0 ≤ 23) : ∃ la, foldI l ms vs 1 = some (la, 0) :=
  fold_new (n := n) (b := 0) (la := List.replicate 24 (-1)) (sm := 0) hn hv (by omega) rfl (fun m hm => by omega)
theorem sS_at {l : List Q4} (h : tripsB l = true) {x : Nat} {a b c d : Int} (e : l[x]? = some ⟨a, b, c, d⟩) : sS l x = a := by
  obtain ⟨a', b', c', d', e', h1, _⟩ := trip_at h (List.getElem?_eq_some_iff.1 e).1
  rw [e] at e'
  cases e'
  exact h1
theorem ok_not {l : List Q4} {ms vs : List Int} {i : Nat} (hi : i < vs.length) (h : inR (vs.getD i 0) 0 23 = false) : okI l ms vs = false := by
  cases e : okI l ms vs with
  | false => rfl
  | true =>
    rw [okI, Bool.and_eq_true, Bool.and_eq_true] at e
    obtain ⟨hvl, hv⟩ := many_at e.2.2
    have := hv i (by omega)
    rw [inR_iff.2 this] at h
    cases h
theorem ok_yes {l : List Q4} {ms vs : List Int} (h1 : tripsB l = true) (h2 : movesB ms = true) (hl : vs.length = l.length) (h : ∀ x, x < l.length → inR (vs.getD x 0) 0 23 = true) : okI l ms vs = true := by
  rw [okI, h1, h2, manyIn]
  simp only [Bool.true_and, Bool.and_eq_true, decide_eq_true_eq, List.all_eq_true]
  refine ⟨by omega, by omega, fun x hx => ?_⟩
  obtain ⟨k, hk, rfl⟩ := List.getElem_of_mem hx
  have := h k (by omega)
  rwa [List.getD_eq_getElem?_getD, List.getElem?_eq_getElem hk] at this
set_option maxHeartbeats 8000000 in
set_option maxRecDepth 100000 in
theorem spec_any (w : World) (v : Value) (l : List Q4) (_i : ∀ q ∈ l, q.I64) (_b : l.length ≤ 1048576) (s : Sl w 4 v l.length (q4s l)) (u : Value) (ms : List Int) (_j : ∀ x ∈ ms, I64 x) (_c : ms.length ≤ 1048576) (t : Sl w 1 u ms.length (ms.map vi)) (z : Value) (vs : List Int) (_k : ∀ x ∈ vs, I64 x) (_d : vs.length ≤ 1048576) (r : Sl w 1 z vs.length (vs.map vi)) :
    Calls Try.prog 5 #[v, u, z] w fun e w' => e = .returned (.tuple #[.int .i64 (M l ms vs).1, .bool (M l ms vs).2]) ∧ Below w.heap.size w w' := by
  have A1 := hd (fun w' (h : Below w.heap.size w w') => l06Trips_any v l w' (s.below h))
  have A2 := hd (fun w' (h : Below w.heap.size w w') => l06Moves_any u ms w' (t.below h))
  have S0 := hd s
  have T0 := hd t
  obtain ⟨P1, c1, rfl, _, hr1⟩ := id s
  obtain ⟨P2, c2, rfl, _, hr2⟩ := id t
  obtain ⟨P3, c3, rfl, _, hr3⟩ := id r
  have R1 := hd hr1
  have R2 := hd hr2
  have R3 := hd hr3
  have HM := hd (rfl : M l ms vs = M l ms vs)
  clear s t r hr1 hr2 hr3 _i _j _k
  generalize hx : M l ms vs = m at *
  have HX := hd hx
  clear hx HM
  cases h1 : tripsB l with
  | false =>
    have E := hd (show m = (0, false) by rw [← HX.out]; exact M_no (by rw [okI, h1]; rfl))
    rw [h1] at A1
    clear h1
    go_enter Try.func5, Try.ntmps5
    go_wp2_with fail
    go_at_call 11
    refine (A1.out w (Below.refl _ _)).mono ?_; rintro e w2 ⟨rfl, hb2⟩
    go_wp2
    go_ret2
    rw [E.out]
    exact ⟨rfl, hb2⟩
  | true =>
  cases h2 : movesB ms with
  | false =>
    have E := hd (show m = (0, false) by rw [← HX.out]; exact M_no (by rw [okI, h2, Bool.false_and, Bool.and_false]))
    rw [h1] at A1
    rw [h2] at A2
    clear h1 h2
    go_enter Try.func5, Try.ntmps5
    go_wp2_with fail
    go_at_call 11
    refine (A1.out w (Below.refl _ _)).mono ?_; rintro e w2 ⟨rfl, hb2⟩
    have B2 := hd hb2
    go_wp2_with fail
    go_at_call 12
    refine (A2.out w2 B2.out).mono ?_; rintro e w3 ⟨rfl, hw⟩
    subst hw
    go_wp2
    go_ret2
    rw [E.out]
    exact ⟨rfl, B2.out⟩
  | true =>
  obtain ⟨n1, n24⟩ := trips_len h1
  have hml : ms.length = 64 := (movesB_iff.1 h2).1
  have HT := hd h1
  have H2 := hd h2
  rw [h1] at A1
  rw [h2] at A2
  clear h1 h2
  obtain ⟨n, hn⟩ : ∃ n, n = l.length := ⟨_, rfl⟩
  obtain ⟨nv, hnv⟩ : ∃ nv, nv = vs.length := ⟨_, rfl⟩
  have HN := hd hn
  have HNV := hd hnv
  rw [hml] at T0 R2
  rw [← hn] at n1 n24 S0 R1 A1 _b
  rw [← hnv] at R3 _d
  rw [hml] at A2
  simp only [← hn, ← hnv, hml]
  clear hn hnv hml
  go_enter Try.func5, Try.ntmps5
  go_wp2_with fail
  go_at_call 11
  refine (A1.out w (Below.refl _ _)).mono ?_; rintro e w2 ⟨rfl, hb2⟩
  have B2 := hd hb2
  clear hb2 A1
  go_wp2_with fail
  go_at_call 12
  refine (A2.out w2 B2.out).mono ?_; rintro e w3 ⟨rfl, hw⟩
  subst hw
  clear A2
  by_cases hv : nv = n
  · subst hv
    have hstart := World.ownsRow_made (base := w2.heap.size) (size := 1) w2 #[] 0 (Nat.le_refl _) (by unfold maxLen; omega) rfl (e := 2)
    have HST := hd hstart
    clear hstart
    go_wp2
    go_loopw [8, 9] (fun ov iv wr => ∃ i : Nat, i ≤ nv ∧ iv = .int .i64 i ∧ Hid (∀ x, x < i → inR (vs.getD x 0) 0 23 = true) ∧ Hid (wr.ownsRow w2.heap.size 2 1 ov i ((sortL (keyL l) (upTo i) i).map vi)) ∧ Hid (Below w2.heap.size w2 wr)) (fun _ iv _ => nv - (intOf iv).toNat)
    case atStart => exact ⟨0, by omega, rfl, hd (fun x h => by omega), hd (by simpa [upTo, sortL] using HST.out), hd ((Below.refl _ _).alloc (Nat.le_refl _) _)⟩
    case round =>
      obtain ⟨i, hi, rfl, HV, HO, HB⟩ := hrel
      by_cases hlt : i < nv
      · have i2 : (i : Int) < (nv : Int) := Int.ofNat_lt.2 hlt
        obtain ⟨bv, ov, rfl, c0⟩ := (R3.out.below (below_tr HB.out B2.out)).int hlt
        obtain ⟨vx, hvx⟩ : ∃ vx, vx = vs.getD i 0 := ⟨_, rfl⟩
        rw [← hvx] at c0
        have HVX := hd hvx
        clear hvx
        go_wp2_with fail
        go_at_call 13
        cases hin : inR vx 0 23 with
        | false =>
          refine (l00In_f vx 0 23 wr hin).mono ?_; rintro e w3 ⟨rfl, hw⟩
          subst hw
          have E := hd (show m = (0, false) by rw [← HX.out]; exact M_no (ok_not (i := i) (by rw [← HNV.out]; exact hlt) (by rw [← HVX.out]; exact hin)))
          clear c0
          go_wp2
          go_ret2
          rw [E.out]
          exact ⟨rfl, below_tr HB.out B2.out⟩
        | true =>
          refine (l00In_t vx 0 23 wr hin).mono ?_; rintro e w3 ⟨rfl, hw⟩
          replace hw := hw.symm
          subst hw
          have HV2 := hd (show ∀ x, x < i + 1 → inR (vs.getD x 0) 0 23 = true from fun x hx => by
            rcases Nat.lt_or_ge x i with h | h
            · exact HV.out x h
            · obtain rfl : x = i := by omega
              rw [← HVX.out]; exact hin)
          clear c0 hin HVX HV
          go_wp2_with (at_builtin; go_must (refine wpList_app_int _ _ _ rfl _ _ rfl w2.heap.size i _ _ rfl HO.out rfl _ rfl (by simp) (by omega) HB.out.size ?_); intro v' w1 ho1 hg1 hap; have HO1 := hd ho1; have HB1 := hd (below_row hg1 HB.out (own_row HO.out (Nat.le_refl _))); clear ho1 hg1 hap)
          clear HO HB
          obtain ⟨g6, c6, rfl, _, _⟩ := own_form HO1.out (by omega)
          obtain ⟨n6, hn6⟩ : ∃ n6, i + 1 = n6 := ⟨_, rfl⟩
          have HO2 := hd (show w1.ownsRow w2.heap.size 2 1 (.slice (some ⟨g6, 0, none⟩) (i + 1) c6) (i + 1) ((sortL (keyL l) (upTo (i + 1)) i).map vi) by rw [← sort_next, List.map_append]; exact HO1.out)
          clear HO1
          have hin6 : i < n6 := by omega
          have n6n : n6 ≤ nv := by omega
          rw [hn6] at HO2 ⊢
          have N6 := hd hn6
          clear hn6
          go_wp2
          go_loopw [10] (fun kv wr2 => ∃ (k : Nat) (d' : List Int), k ≤ i ∧ kv = .int .i64 k ∧ Hid (sinkL (keyL l) k d' = sortL (keyL l) (upTo n6) n6) ∧ Hid (inL n6 d') ∧ Hid (d'.length = n6) ∧ Hid (wr2.ownsRow w2.heap.size 2 1 (.slice (some ⟨g6, 0, none⟩) n6 c6) n6 (d'.map vi)) ∧ Hid (Below w2.heap.size w2 wr2)) (fun kv _ => (intOf kv).toNat)
          case atStart => exact ⟨i, sortL (keyL l) (upTo n6) i, Nat.le_refl _, rfl, hd (by rw [← N6.out]; rfl), hd (inL_sort _ (inL_upTo n6) i (by rw [upTo_len]; omega)), hd (by rw [sortL_len, upTo_len]), HO2, HB1⟩
          case round =>
            clear HO2 HB1
            obtain ⟨k, d', hk, rfl, HS, HI, HL, HO', HB'⟩ := hrel
            rcases Nat.eq_zero_or_pos k with k0 | k0
            · subst k0
              have E := hd (show d' = sortL (keyL l) (upTo n6) n6 from HS.out)
              go_wp2
              go_quiet (fail)
              go_wp2
              go_roundw
              case rel => exact ⟨i + 1, by omega, by go_num, HV2, hd (by rw [N6.out, ← E.out]; exact HO'.out), hd (below_drewN HB'.out _)⟩
              case measure => simp [intOf]; omega
            · obtain ⟨kk, hkk⟩ : ∃ kk, k = kk + 1 := ⟨k - 1, by omega⟩
              have kp : (0 : Int) < (k : Int) := by omega
              have kp2 : decide ((0 : Int) < (k : Int)) = true := decide_eq_true kp
              have kn : k < n6 := by omega
              have kkn : kk < n6 := by omega
              have kn2 : (k : Int) < (n6 : Int) := Int.ofNat_lt.2 kn
              have kkn2 : (kk : Int) < (n6 : Int) := Int.ofNat_lt.2 kkn
              have hwk : IntKind.i64.wrap ((k : Int) - 1) = (kk : Int) := by rw [IntWalk.i64_in _ (by omega)]; omega
              have bx := HI.out k (by rw [HL.out]; exact kn)
              have by' := HI.out kk (by rw [HL.out]; exact kkn)
              obtain ⟨xn, hx⟩ : ∃ xn : Nat, d'.getD k 0 = (xn : Int) := ⟨(d'.getD k 0).toNat, by omega⟩
              obtain ⟨yn, hy⟩ : ∃ yn : Nat, d'.getD kk 0 = (yn : Int) := ⟨(d'.getD kk 0).toNat, by omega⟩
              have hxn : xn < nv := by omega
              have hyn : yn < nv := by omega
              have cx : wr.cell? ⟨g6, k, none⟩ = some (.int .i64 (xn : Int)) := by
                rw [HO'.out.cellAt k (by omega), List.getElem?_map, List.getElem?_eq_getElem (by rw [HL.out]; exact kn), Option.map_some]
                rw [List.getD_eq_getElem?_getD, List.getElem?_eq_getElem (by rw [HL.out]; exact kn)] at hx
                simp only [Option.getD_some] at hx
                rw [hx]; rfl
              have cy : wr.cell? ⟨g6, kk, none⟩ = some (.int .i64 (yn : Int)) := by
                rw [HO'.out.cellAt kk (by omega), List.getElem?_map, List.getElem?_eq_getElem (by rw [HL.out]; exact kkn), Option.map_some]
                rw [List.getD_eq_getElem?_getD, List.getElem?_eq_getElem (by rw [HL.out]; exact kkn)] at hy
                simp only [Option.getD_some] at hy
                rw [hy]; rfl
              obtain ⟨bb, off, xa, xb, xc, xd, rfl, hxa, s0, s1, s2, s3⟩ := (R1.out.below (below_tr HB'.out B2.out)).q4 hxn
              obtain ⟨_, _, ya, yb, yc, yd, e2, hya, t0, t1, t2, t3⟩ := (R1.out.below (below_tr HB'.out B2.out)).q4 hyn
              cases e2
              have hkx : keyL l (d'.getD k 0) = xa := by rw [hx, keyL, Int.toNat_natCast]; exact sS_at HT.out hxa.out
              have hky : keyL l (d'.getD kk 0) = ya := by rw [hy, keyL, Int.toNat_natCast]; exact sS_at HT.out hya.out
              have x2 : (xn : Int) < (nv : Int) := Int.ofNat_lt.2 hxn
              have y2 : (yn : Int) < (nv : Int) := Int.ofNat_lt.2 hyn
              clear s1 s2 s3 t1 t2 t3 hxa hya
              by_cases hc : xa < ya
              · have E := hd (show sinkL (keyL l) kk (swapL d' kk) = sortL (keyL l) (upTo n6) n6 by
                  rw [← HS.out, hkk, sinkL, if_pos (by rw [← hkk, hkx, hky]; exact hc)])
                have ESW := hd (show (d'.set k (yn : Int)).set kk (xn : Int) = swapL d' kk by rw [swapL, ← hkk, hx, hy])
                have HI2 := hd (inL_swap HI.out (show kk + 1 < d'.length by rw [HL.out]; omega))
                have HL2 := hd (show (swapL d' kk).length = n6 by rw [swapL_len]; exact HL.out)
                have hc2 : decide (xa < ya) = true := decide_eq_true hc
                have HKK := hd hkk
                clear HS HI HL bx by' hkx hky hx hy hkk
                go_wp2
                go_quiet (fail)
                obtain ⟨W, hW⟩ : ∃ W, W = wr.drewN nq := ⟨_, rfl⟩
                have cx' : W.cell? ⟨g6, k, none⟩ = some (.int .i64 (xn : Int)) := by rw [hW]; exact cx
                have cy' : W.cell? ⟨g6, kk, none⟩ = some (.int .i64 (yn : Int)) := by rw [hW]; exact cy
                have ho : W.ownsRow w2.heap.size 2 1 (.slice (some ⟨g6, 0, none⟩) n6 c6) n6 (d'.map vi) := by rw [hW]; exact HO'.out
                have HBW := hd (show Below w2.heap.size w2 W by rw [hW]; exact below_drewN HB'.out _)
                rw [← hW]
                clear hW cx cy s0 t0 hc hc2
                go_wp2_with (first
                  | ((with_reducible refine wpList_store_own _ w2.heap.size 2 1 n6 c6 g6 _ ho size_int ?_ ?_ ?_ ?_ ?_ ?_ ?_); rotate_left 2; exact rfl; exact rfl; exact rfl; omega; intro w7 ho7 hg7)
                  | ((with_reducible refine wpList_store_own _ w2.heap.size 2 1 n6 c6 g6 _ ho7 size_int ?_ ?_ ?_ ?_ ?_ ?_ ?_); rotate_left 2; exact rfl; exact rfl; exact rfl; omega; intro w8 ho8 hg8))
                have HO8 := hd (show w8.ownsRow w2.heap.size 2 1 (.slice (some ⟨g6, 0, none⟩) n6 c6) n6 ((swapL d' kk).map vi) by
                  have e : w8.ownsRow w2.heap.size 2 1 (.slice (some ⟨g6, 0, none⟩) n6 c6) n6 (((d'.map vi).set k (vi (yn : Int))).set kk (vi (xn : Int))) := ho8
                  rw [← ESW.out, List.map_set, List.map_set]
                  exact e)
                have HB8 := hd (below_row (hg7.trans hg8) HBW.out (fun q hq => (own_row ho (Nat.le_refl _)) q hq))
                clear ho ho7 ho8 hg7 hg8 cx' cy' HBW
                go_wp2
                go_roundw
                case rel => exact ⟨kk, swapL d' kk, by have := HKK.out; omega, by first | rfl | go_num, E, HI2, HL2, HO8, HB8⟩
                case measure => have := HKK.out; simp [intOf]; omega
              · have E := hd (show d' = sortL (keyL l) (upTo n6) n6 by
                  rw [← HS.out, hkk, sinkL, if_neg (by rw [← hkk, hkx, hky]; exact hc)])
                have hc2 : decide (xa < ya) = false := decide_eq_false hc
                clear HS HI HL bx by' hkx hky hx hy hkk
                go_wp2
                go_quiet (fail)
                clear cx cy s0 t0 hc hc2
                go_wp2
                go_roundw
                case rel => exact ⟨i + 1, by omega, by go_num, HV2, hd (by rw [N6.out, ← E.out]; exact HO'.out), hd (below_drewN HB'.out _)⟩
                case measure => simp [intOf]; omega
      · obtain rfl : i = nv := by omega
        obtain ⟨g6, c6, rfl, _, _⟩ := own_form HO.out n1
        have hvb : ∀ x, x < i → 0 ≤ vs.getD x 0 ∧ vs.getD x 0 ≤ 23 := fun x hx => inR_iff.1 (HV.out x hx)
        have hok : okI l ms vs = true := ok_yes HT.out H2.out (by rw [← HNV.out, ← HN.out]) (fun x hx => HV.out x (by rw [HN.out]; exact hx))
        obtain ⟨la1, e1⟩ := fold_one (ms := ms) HN.out n1 hvb
        have HVB := hd hvb
        have HOK := hd hok
        have E1 := hd e1
        have OIN := hd (fun k (hk : k < i) => (by rw [HN.out]; exact ord_in l (by rw [← HN.out]; exact hk) : ordO l k < i))
        have CO := hd (fun (wr' : World) (ho : wr'.ownsRow w2.heap.size 2 1 (.slice (some ⟨g6, 0, none⟩) i c6) i ((sortL (keyL l) (upTo i) i).map vi)) (k : Nat) (hk : k < i) => (by
          have hl : (sortL (keyL l) (upTo i) i).length = i := by rw [sortL_len, upTo_len]
          have h0 := (inL_sort (keyL l) (inL_upTo i) i (by rw [upTo_len]; exact Nat.le_refl _)) k (by omega)
          rw [ho.cellAt k (by omega), List.getElem?_map, List.getElem?_eq_getElem (by omega), Option.map_some]
          rw [List.getD_eq_getElem?_getD, List.getElem?_eq_getElem (by omega)] at h0
          simp only [Option.getD_some] at h0
          have e : ordO l k = ((sortL (keyL l) (upTo i) i)[k]'(by omega)).toNat := by
            rw [ordO, ← HN.out, List.getD_eq_getElem?_getD, List.getElem?_eq_getElem (by omega)]; rfl
          rw [e, vi, Int.toNat_of_nonneg h0.1] : wr'.cell? ⟨g6, k, none⟩ = some (.int .i64 (ordO l k : Int))))
        clear hvb hok e1 HV hlt HST
        --@c
        go_wp2
        go_loopw [12, 13] (fun sv bv wr3 => ∃ (b : Nat) (la : List Int) (sm : Int), 1 ≤ b ∧ b ≤ i ∧ bv = .int .i64 b ∧ sv = .int .i64 sm ∧ Hid (foldI l ms vs b = some (la, sm)) ∧ (0 ≤ sm ∧ sm ≤ 1000 * (b : Int)) ∧ Hid (wr3.ownsRow w2.heap.size 2 1 (.slice (some ⟨g6, 0, none⟩) i c6) i ((sortL (keyL l) (upTo i) i).map vi)) ∧ Hid (Below w2.heap.size w2 wr3)) (fun _ bv _ => i - (intOf bv).toNat)
        case atStart => exact ⟨1, la1, 0, Nat.le_refl _, n1, rfl, rfl, E1, by omega, HO, HB⟩
        case round =>
          clear HO HB E1
          obtain ⟨b, la, sm, hb1, hb, rfl, rfl, HF, hsm, HR, HB'⟩ := hrel
          by_cases hlb : b < i
          · have b2 : (b : Int) < (i : Int) := Int.ofNat_lt.2 hlb
            have hwb : IntKind.i64.wrap ((b : Int) - 1) = (b : Int) - 1 := IntWalk.i64_in _ (by omega)
            go_wp2
            clear hwb
            go_loopw [14] (fun av wr4 => ∃ c : Nat, c ≤ b ∧ av = .int .i64 ((c : Int) - 1) ∧ Hid (∀ m, c ≤ m → m < b → (vs.getD (ordO l m) 0).toNat ≠ (vs.getD (ordO l b) 0).toNat) ∧ Hid (wr4.ownsRow w2.heap.size 2 1 (.slice (some ⟨g6, 0, none⟩) i c6) i ((sortL (keyL l) (upTo i) i).map vi)) ∧ Hid (Below w2.heap.size w2 wr4)) (fun av _ => (intOf av + 1).toNat)
            case atStart => exact ⟨b, Nat.le_refl _, rfl, hd (fun m h1 h2 => by omega), HR, HB'⟩
            case round =>
              clear HR HB'
              obtain ⟨c, hc, rfl, HD, HR, HB'⟩ := hrel
              rcases Nat.eq_zero_or_pos c with c0 | c0
              · subst c0
                obtain ⟨la', E⟩ := fold_new HN.out HVB.out hlb HF.out (fun m hm => HD.out m (Nat.zero_le _) hm)
                have E := hd E
                clear HF HD
                --@d
                go_wp2
                go_quiet (fail)
                go_wp2
                go_roundw
                case rel => exact ⟨b + 1, la', sm, by omega, by omega, by go_num, rfl, E, by push_cast; omega, hd (by exact HR.out), hd (below_drewN HB'.out _)⟩
                case measure => simp [intOf]; omega
              · obtain ⟨cc, hcc⟩ : ∃ cc, c = cc + 1 := ⟨c - 1, by omega⟩
                have zi : (c : Int) - 1 = (cc : Int) := by omega
                have hcb : cc < b := by omega
                have hci : cc < i := by omega
                have hci2 : (cc : Int) < (i : Int) := Int.ofNat_lt.2 hci
                have k0 : (0 : Int) ≤ (cc : Int) := by omega
                have k02 : decide ((0 : Int) ≤ (cc : Int)) = true := decide_eq_true k0
                have co := CO.out wr HR.out cc hci
                have cb := CO.out wr HR.out b hlb
                have oc1 := OIN.out cc hci
                have ob1 := OIN.out b hlb
                have dx := HVB.out _ oc1
                have dy := HVB.out _ ob1
                obtain ⟨bv, ov, rfl, cvx⟩ := (R3.out.below (below_tr HB'.out B2.out)).int oc1
                obtain ⟨_, _, e3, cvy⟩ := (R3.out.below (below_tr HB'.out B2.out)).int ob1
                cases e3
                have oc2 : ((ordO l cc : Nat) : Int) < (i : Int) := Int.ofNat_lt.2 oc1
                have ob2 : ((ordO l b : Nat) : Int) < (i : Int) := Int.ofNat_lt.2 ob1
                rw [zi]
                by_cases hvv : vs.getD (ordO l cc) 0 = vs.getD (ordO l b) 0
                · obtain ⟨pb, po, xa, xb, xc, xd, rfl, hxa, s0, s1, s2, s3⟩ := (R1.out.below (below_tr HB'.out B2.out)).q4 oc1
                  obtain ⟨_, _, ya, yb, yc, yd, e4, hya, t0, t1, t2, t3⟩ := (R1.out.below (below_tr HB'.out B2.out)).q4 ob1
                  cases e4
                  obtain ⟨nc, nd, rfl, rfl, hc7, hd7, a0, a1, bb0, bb1⟩ := trips_q HT.out hxa.out
                  obtain ⟨nc', nd', rfl, rfl, hc7', hd7', _⟩ := trips_q HT.out hya.out
                  have mb := moves_at H2.out nd nc' hd7 hc7'
                  obtain ⟨bm, om, rfl, cm⟩ := (R2.out.below (below_tr HB'.out B2.out)).int (show nd * 8 + nc' < 64 by omega)
                  have hfit : fitV l ms (ordO l cc) (ordO l b) = decide (xb + ms.getD (nd * 8 + nc') 0 ≤ ya) := by rw [fitV, cellF_at hxa.out hya.out, folB_nat]
                  have hmv : mvV l ms (ordO l cc) (ordO l b) = ms.getD (nd * 8 + nc') 0 := by
                    rw [mvV, hxa.out, hya.out]
                    simp only
                    rw [show ((nd : Int) * 8 + (nc' : Int)).toNat = nd * 8 + nc' by omega]
                  have FO := fold_old HN.out HVB.out hlb HF.out hcb (by rw [hvv]) (fun m h1 h2 => HD.out m (by omega) h2)
                  rw [hfit, hmv] at FO
                  have HFO := hd FO
                  have FW := hd (fun q => l06Follows_any xa xb nc ya yb nd' nd nc' _ _ l ms (ordO l cc) (ordO l b) (wr.drewN q) (by rw [← HN.out]; exact S0.out.below (below_drewN (below_tr HB'.out B2.out) q)) (by rw [(movesB_iff.1 H2.out).1]; exact T0.out.below (below_drewN (below_tr HB'.out B2.out) q)) hxa.out hya.out (movesB_iff.1 H2.out).1 hd7 hc7' bb0 bb1 mb.1 mb.2)
                  have w1 : IntKind.i64.wrap ((nd : Int) * 8) = (nd : Int) * 8 := IntWalk.i64_in _ (by omega)
                  obtain ⟨mi, hmi⟩ : ∃ mi, mi = nd * 8 + nc' := ⟨_, rfl⟩
                  have w2' : IntKind.i64.wrap ((nd : Int) * 8 + (nc' : Int)) = (mi : Int) := by rw [IntWalk.i64_in _ (by omega)]; omega
                  have mi2 : (mi : Int) < 64 := by omega
                  rw [← hmi] at cm mb
                  have HMI := hd hmi
                  rw [← hmi] at FW
                  have HF2 := hd (show (decide (xb + ms.getD mi 0 ≤ ya) = true → ∃ la', foldI l ms vs (b + 1) = some (la', sm + ms.getD mi 0)) ∧ (decide (xb + ms.getD mi 0 ≤ ya) = false → foldI l ms vs i = none) by rw [hmi]; exact HFO.out)
                  rw [← hvv] at cvy
                  clear FO HFO hfit hmv hmi hxa hya HD HF dx dy hcc zi hvv s0 s1 s2 t0 t1 t3 a0 a1 bb0 bb1
                  generalize vs.getD (ordO l cc) 0 = vx at *
                  have hv1 : (vx == vx) = true := by simp
                  have hv2 : (vx != vx) = false := by simp
                  have k03 : ¬ (cc : Int) < 0 := by omega
                  generalize ms.getD mi 0 = mm at *
                  have w5 : IntKind.i64.wrap (sm + mm) = sm + mm := IntWalk.i64_in _ (by omega)
                  cases hf : decide (xb + mm ≤ ya) with
                  | false =>
                    rw [hf] at FW
                    have E := hd (show m = (0, false) by rw [← HX.out]; exact M_none HOK.out (by rw [← HN.out]; exact HF2.out.2 hf))
                    have HB9 := hd (below_tr HB'.out B2.out)
                    clear hf HF2 w1 w2' w5
                    go_wp2
                    go_quiet (fail)
                    go_wp2
                    go_quiet ((go_at_call 14; exact (FW.out _).mono fun _ _ h => by (obtain ⟨h1, m, h2⟩ := h; refine ⟨h1, ?_⟩; rw [h2, World.drewN_drewN, Nat.add_assoc]; exact ⟨_, rfl⟩)))
                    go_wp2
                    go_ret2
                    rw [E.out]
                    exact ⟨rfl, below_drewN (below_drewN HB9.out _) _⟩
                  | true =>
                    rw [hf] at FW
                    obtain ⟨la', E⟩ := HF2.out.1 hf
                    have E := hd E
                    clear hf HF2
                    go_wp2
                    go_quiet (fail)
                    go_wp2
                    go_quiet ((go_at_call 14; exact (FW.out _).mono fun _ _ h => by (obtain ⟨h1, m, h2⟩ := h; refine ⟨h1, ?_⟩; rw [h2, World.drewN_drewN, Nat.add_assoc]; exact ⟨_, rfl⟩)))
                    go_wp2
                    go_quiet (fail)
                    clear co cb cvx cvy hv1 hv2 oc1 oc2 ob1 ob2 w1 w2' s3 t2 cm mi2
                    go_wp2
                    go_roundw
                    case rel => exact ⟨b + 1, la', sm + mm, by omega, by omega, by go_num, by first | rfl | exact congrArg (Value.int IntKind.i64) w5 | exact congrArg (Value.int IntKind.i64) w5.symm, E, by push_cast; omega, hd (by exact HR.out), hd (below_drewN HB'.out _)⟩
                    case measure => simp [intOf]; omega
                · have HD2 := hd (show ∀ m, cc ≤ m → m < b → (vs.getD (ordO l m) 0).toNat ≠ (vs.getD (ordO l b) 0).toNat from fun m h1 h2 => by
                    rcases Nat.lt_or_ge cc m with h3 | h3
                    · exact HD.out m (by omega) h2
                    · obtain rfl : m = cc := by omega
                      omega)
                  have HCC := hd hcc
                  clear HD hcc zi dx dy
                  generalize vs.getD (ordO l cc) 0 = vx at *
                  generalize vs.getD (ordO l b) 0 = vy at *
                  have hv1 : (vx == vy) = false := by simpa using hvv
                  have hv2 : (vx != vy) = true := by simpa using hvv
                  have hwc : IntKind.i64.wrap ((cc : Int) - 1) = (cc : Int) - 1 := IntWalk.i64_in _ (by omega)
                  clear hvv
                  go_wp2
                  go_quiet (fail)
                  clear co cb cvx cvy hv1 hv2 oc1 oc2 ob1 ob2
                  go_wp2
                  go_roundw
                  case rel => exact ⟨cc, by omega, rfl, HD2, hd (by exact HR.out), hd (below_drewN HB'.out _)⟩
                  case measure => have := HCC.out; first | (simp [intOf]; omega) | (subst this; simp [intOf]) | simp [intOf]
          · obtain rfl : b = i := by omega
            have E := hd (show m = (sm, true) by rw [← HX.out]; exact M_some HOK.out (by rw [← HN.out]; exact HF.out))
            have HB9 := hd (below_tr HB'.out B2.out)
            clear HF HR HB' CO OIN
            go_wp2
            go_ret2
            rw [E.out]
            exact ⟨rfl, HB9.out⟩
  · have E := hd (show m = (0, false) by
      rw [← HX.out]
      refine M_no ?_
      cases e : okI l ms vs with
      | false => rfl
      | true =>
        rw [okI, Bool.and_eq_true, Bool.and_eq_true] at e
        have := (many_at e.2.2).1
        exact absurd (by rw [HN.out, HNV.out]; exact this) hv)
    have hv2 : ¬ (nv : Int) = (n : Int) := by omega
    have hv3 : ((nv : Int) != (n : Int)) = true := by simpa using hv2
    go_wp2
    go_ret2
    rw [E.out]
    exact ⟨rfl, B2.out⟩

set_option maxHeartbeats 2000000 in
set_option maxRecDepth 100000 in
theorem walk (w : World) (v0 : Value) (x0 : List Q4) (i0 : ∀ x ∈ x0, x.I64) (s0 : Sl w 4 v0 x0.length (q4s x0)) (v1 : Value) (x1 : List Int) (i1 : ∀ x ∈ x1, I64 x) (s1 : Sl w 1 v1 x1.length (x1.map vi)) (v2 : Value) (x2 : List Int) (i2 : ∀ x ∈ x2, I64 x) (s2 : Sl w 1 v2 x2.length (x2.map vi)) :
    Calls Try.prog 3 #[v0, v1, v2] w fun e w' => e = .returned (.bool true) ∧ Below w.heap.size w w' := by
  obtain ⟨A0, cap0, hw0, _, hr0⟩ := id s0
  have hv0 := hd hw0; clear hw0
  obtain ⟨A1, cap1, hw1, _, hr1⟩ := id s1
  have hv1 := hd hw1; clear hw1
  obtain ⟨A2, cap2, hw2, _, hr2⟩ := id s2
  have hv2 := hd hw2; clear hw2
  have hm0 := hr0.2.1
  have hm1 := hr1.2.1
  have hm2 := hr2.2.1
  by_cases b1 : x1.length ≤ 1048576
  rotate_left
  · have e1 := hv1.out; subst e1
    unfold maxLen at hm1
    have hx' : ¬ ((x1.length : Int) ≤ 1048576) := by omega
    go_enter Try.func3, Try.ntmps3
    go_wp2
    go_ret
    exact ⟨rfl, Below.refl _ _⟩
  by_cases b2 : x2.length ≤ 1048576
  rotate_left
  · have e2 := hv2.out; subst e2
    have e1 := hv1.out; subst e1
    unfold maxLen at hm2
    have hx' : ¬ ((x2.length : Int) ≤ 1048576) := by omega
    have hx1 : (x1.length : Int) ≤ 1048576 := by omega
    go_enter Try.func3, Try.ntmps3
    go_wp2
    go_ret
    exact ⟨rfl, Below.refl _ _⟩
  have hz0 := hd (szTripS_any v0 x0.length (1048576) w ⟨A0, cap0, hv0.out, hm0⟩ (by omega) (by omega))
  by_cases c0 : (1048576 : Int) < x0.length
  · rw [if_pos c0] at hz0
    have e1 := hv1.out; subst e1
    have hx1 : (x1.length : Int) ≤ 1048576 := by omega
    have e2 := hv2.out; subst e2
    have hx2 : (x2.length : Int) ≤ 1048576 := by omega
    go_enter Try.func3, Try.ntmps3
    go_wp2_with fail
    refine hz0.out.mono ?_; rintro e w' ⟨rfl, rfl⟩
    go_wp2
    go_ret
    exact ⟨rfl, Below.refl _ _⟩
  rw [if_neg c0] at hz0
  have l0 : (0 : Int) ≤ 1048576 - x0.length := by omega
  have b0 : x0.length ≤ 1048576 := by omega
  have hx1 : (x1.length : Int) ≤ 1048576 := by omega
  have hx2 : (x2.length : Int) ≤ 1048576 := by omega
  have z0 := size_le b0
  have z1 := size_le b1
  have z2 := size_le b2
  have hB := Below.refl w.heap.size w
  clear hr0 hm0
  clear hr1 hm1
  clear hr2 hm2
  clear hv0
  have e1 := hv1.out; subst e1; clear hv1
  have e2 := hv2.out; subst e2; clear hv2
  go_enter Try.func3, Try.ntmps3
  go_wp2_with fail
  refine hz0.out.mono ?_; rintro e w' ⟨rfl, rfl⟩
  clear hz0
  go_wp2_with fail
  refine (toTripS_any _ x0 _ (s0.below hB) b0).mono ?_; rintro e w1 ⟨s0_, rfl, ho_s0_, hb⟩
  replace ho_s0_ := own_mono ho_s0_ hB.size
  replace hB := below_tr hb hB
  clear hb
  go_wp2_with fail
  refine (toInt64S_any _ x1 _ (s1.below hB) b1).mono ?_; rintro e w2 ⟨s1_, rfl, ho_s1_, hb⟩
  have d_s0__s1_ := dj_new ho_s0_ ho_s1_
  replace ho_s0_ := own_below ho_s0_ hb
  replace ho_s1_ := own_mono ho_s1_ hB.size
  replace hB := below_tr hb hB
  clear hb
  go_wp2_with fail
  refine (toInt64S_any _ x2 _ (s2.below hB) b2).mono ?_; rintro e w3 ⟨s2_, rfl, ho_s2_, hb⟩
  have d_s0__s2_ := dj_new ho_s0_ ho_s2_
  have d_s1__s2_ := dj_new ho_s1_ ho_s2_
  replace ho_s0_ := own_below ho_s0_ hb
  replace ho_s1_ := own_below ho_s1_ hb
  replace ho_s2_ := own_mono ho_s2_ hB.size
  replace hB := below_tr hb hB
  clear hb
  go_wp2_with fail
  refine (spec_any _ _ x0 i0 b0 (own_sl ho_s0_ z0) _ x1 i1 b1 (own_sl ho_s1_ z1) _ x2 i2 b2 (own_sl ho_s2_ z2)).mono ?_; rintro e w4 ⟨rfl, hb⟩
  replace ho_s0_ := own_below ho_s0_ hb
  replace ho_s1_ := own_below ho_s1_ hb
  replace ho_s2_ := own_below ho_s2_ hb
  replace hB := below_tr hb hB
  clear hb
  clear ho_s0_ d_s0__s1_ d_s0__s2_
  clear ho_s1_ d_s1__s2_
  clear ho_s2_
  go_wp2_with fail
  refine (toTripS_any _ x0 _ (s0.below hB) b0).mono ?_; rintro e w5 ⟨x0_, rfl, ho_x0_, hb⟩
  replace ho_x0_ := own_mono ho_x0_ hB.size
  replace hB := below_tr hb hB
  clear hb
  go_wp2_with fail
  refine (toInt64S_any _ x1 _ (s1.below hB) b1).mono ?_; rintro e w6 ⟨x1_, rfl, ho_x1_, hb⟩
  have d_x0__x1_ := dj_new ho_x0_ ho_x1_
  replace ho_x0_ := own_below ho_x0_ hb
  replace ho_x1_ := own_mono ho_x1_ hB.size
  replace hB := below_tr hb hB
  clear hb
  go_wp2_with fail
  refine (toInt64S_any _ x2 _ (s2.below hB) b2).mono ?_; rintro e w7 ⟨x2_, rfl, ho_x2_, hb⟩
  have d_x0__x2_ := dj_new ho_x0_ ho_x2_
  have d_x1__x2_ := dj_new ho_x1_ ho_x2_
  replace ho_x0_ := own_below ho_x0_ hb
  replace ho_x1_ := own_below ho_x1_ hb
  replace ho_x2_ := own_mono ho_x2_ hB.size
  replace hB := below_tr hb hB
  clear hb
  go_wp2_with fail
  refine (impl_any _ _ x0 i0 b0 (own_sl ho_x0_ z0) _ x1 i1 b1 (own_sl ho_x1_ z1) _ x2 i2 b2 (own_sl ho_x2_ z2)).mono ?_; rintro e w8 ⟨rfl, hb⟩
  replace ho_x0_ := own_below ho_x0_ hb
  replace ho_x1_ := own_below ho_x1_ hb
  replace ho_x2_ := own_below ho_x2_ hb
  replace hB := below_tr hb hB
  clear hb
  go_wp2_with fail
  refine (toTripS_any _ x0 _ (s0.below hB) b0).mono ?_; rintro e w9 ⟨c0_, rfl, ho_c0_, hb⟩
  have d_x0__c0_ := dj_new ho_x0_ ho_c0_
  have d_x1__c0_ := dj_new ho_x1_ ho_c0_
  have d_x2__c0_ := dj_new ho_x2_ ho_c0_
  replace ho_x0_ := own_below ho_x0_ hb
  replace ho_x1_ := own_below ho_x1_ hb
  replace ho_x2_ := own_below ho_x2_ hb
  replace ho_c0_ := own_mono ho_c0_ hB.size
  replace hB := below_tr hb hB
  clear hb
  go_wp2_with fail
  refine (eqTripS_any _ _ x0 x0 _ (own_sl ho_x0_ z0) (own_sl ho_c0_ z0)).mono ?_; rintro e w10 ⟨rfl, hb⟩
  replace ho_x0_ := own_below ho_x0_ hb
  replace ho_x1_ := own_below ho_x1_ hb
  replace ho_x2_ := own_below ho_x2_ hb
  replace ho_c0_ := own_below ho_c0_ hb
  replace hB := below_tr hb hB
  clear hb
  clear ho_c0_ d_x0__c0_ d_x1__c0_ d_x2__c0_
  go_wp2_with fail
  refine (toInt64S_any _ x1 _ (s1.below hB) b1).mono ?_; rintro e w11 ⟨c1_, rfl, ho_c1_, hb⟩
  have d_x0__c1_ := dj_new ho_x0_ ho_c1_
  have d_x1__c1_ := dj_new ho_x1_ ho_c1_
  have d_x2__c1_ := dj_new ho_x2_ ho_c1_
  replace ho_x0_ := own_below ho_x0_ hb
  replace ho_x1_ := own_below ho_x1_ hb
  replace ho_x2_ := own_below ho_x2_ hb
  replace ho_c1_ := own_mono ho_c1_ hB.size
  replace hB := below_tr hb hB
  clear hb
  go_wp2_with fail
  refine (eqInt64S_b _ _ x1 x1 _ (own_sl ho_x1_ z1) (own_sl ho_c1_ z1)).mono ?_; rintro e w12 ⟨rfl, hb⟩
  replace ho_x0_ := own_below ho_x0_ hb
  replace ho_x1_ := own_below ho_x1_ hb
  replace ho_x2_ := own_below ho_x2_ hb
  replace ho_c1_ := own_below ho_c1_ hb
  replace hB := below_tr hb hB
  clear hb
  clear ho_c1_ d_x0__c1_ d_x1__c1_ d_x2__c1_
  go_wp2_with fail
  refine (toInt64S_any _ x2 _ (s2.below hB) b2).mono ?_; rintro e w13 ⟨c2_, rfl, ho_c2_, hb⟩
  have d_x0__c2_ := dj_new ho_x0_ ho_c2_
  have d_x1__c2_ := dj_new ho_x1_ ho_c2_
  have d_x2__c2_ := dj_new ho_x2_ ho_c2_
  replace ho_x0_ := own_below ho_x0_ hb
  replace ho_x1_ := own_below ho_x1_ hb
  replace ho_x2_ := own_below ho_x2_ hb
  replace ho_c2_ := own_mono ho_c2_ hB.size
  replace hB := below_tr hb hB
  clear hb
  go_wp2_with fail
  refine (eqInt64S_b _ _ x2 x2 _ (own_sl ho_x2_ z2) (own_sl ho_c2_ z2)).mono ?_; rintro e w14 ⟨rfl, hb⟩
  replace ho_x0_ := own_below ho_x0_ hb
  replace ho_x1_ := own_below ho_x1_ hb
  replace ho_x2_ := own_below ho_x2_ hb
  replace ho_c2_ := own_below ho_c2_ hb
  replace hB := below_tr hb hB
  clear hb
  clear ho_c2_ d_x0__c2_ d_x1__c2_ d_x2__c2_
  go_wp2_with fail
  go_ret
  exact ⟨rfl, hB⟩

theorem own : ownKnob Try.prog.godebug = none := by kernel_rfl
theorem laidOut : laidOutB Try.prog = true := by kernel_rfl

set_option maxRecDepth 100000 in
theorem lifted (os : Os) (started : os.Started) (H : Type) (enc : TypeId × Value → H) :
    ReturnsInHanded {} Try.checked os 3 .any (Rows.fnExactIdleMovesSpec.pre6 enc Try.prog Try.f3 Rows.fnExactIdleMovesRow.domain false) (Rows.fnExactIdleMovesSpec.post enc Try.prog Try.f3 false true false false) := by
  refine returnsInHanded_of_change (C := Try.checked) own started (by as_aux_lemma => kernel_rfl) Try.func3
    (ChangeSpec.witness6 (enc := enc) (C := Try.checked) false ⟨#[], #[.slice none 0 0, .slice none 0 0, .slice none 0 0], []⟩ 8 (by as_aux_lemma => kernel_rfl) (by as_aux_lemma => kernel_rfl) (by as_aux_lemma => kernel_rfl) (by as_aux_lemma => kernel_rfl)) ?_
  intro W base args ds gs before hval0 hW hcnd _
  have hval : ∀ (j : Nat) t v, Try.f3.params[j]? = some t → args[j]? = some v → Value.okWide Try.prog W .any base t v := hval0
  have hW' := hW
  obtain ⟨p, q, hA0, hV, rfl, hfz, hnd⟩ := hW
  have hA : DataW.TrodAll enc Try.prog W 0 (fun _ => true) true Try.f3.params.toList args.toList ds p := hA0
  rw [Try.params3] at hA hval
  obtain ⟨v0, vs0, d0, ds0, p0, q0, hargs, rfl, rfl, h0, r0⟩ := trodAll_cons hA
  obtain ⟨v1, vs1, d1, ds1, p1, q1, rfl, rfl, rfl, h1, r1⟩ := trodAll_cons r0
  obtain ⟨v2, vs2, d2, ds2, p2, q2, rfl, rfl, rfl, h2, r2⟩ := trodAll_cons r1
  obtain ⟨rfl, rfl, rfl⟩ := trodAll_nil r2
  obtain rfl : args = #[v0, v1, v2] := by cases args; simp_all
  obtain ⟨rfl, rfl⟩ := trodVars_none hV
  have k0 := h0
  have lt0 : ∀ x ∈ p0, x.block < W.heap.size := by obtain ⟨m, hm⟩ := k0; exact DataW.trod_lt m _ _ _ hm
  obtain ⟨s0, len0, cap0, rfl⟩ := okWide_slice Try.underlying22 (hval 0 22 v0 rfl rfl)
  obtain ⟨x0, _, i0, w0⟩ := arg_q4 Try.underlying22 Try.underlying40 Try.underlying2 rfl (by as_aux_lemma => kernel_rfl) (by as_aux_lemma => kernel_rfl) h0
  have k1 := h1
  have lt1 : ∀ x ∈ p1, x.block < W.heap.size := by obtain ⟨m, hm⟩ := k1; exact DataW.trod_lt m _ _ _ hm
  obtain ⟨s1, len1, cap1, rfl⟩ := okWide_slice Try.underlying23 (hval 1 23 v1 rfl rfl)
  obtain ⟨x1, _, i1, w1⟩ := arg_ints Try.underlying23 Try.underlying2 (by as_aux_lemma => kernel_rfl) h1
  have k2 := h2
  have lt2 : ∀ x ∈ p2, x.block < W.heap.size := by obtain ⟨m, hm⟩ := k2; exact DataW.trod_lt m _ _ _ hm
  obtain ⟨s2, len2, cap2, rfl⟩ := okWide_slice Try.underlying23 (hval 2 23 v2 rfl rfl)
  obtain ⟨x2, _, i2, w2⟩ := arg_ints Try.underlying23 Try.underlying2 (by as_aux_lemma => kernel_rfl) h2
  clear hA0 hval0
  refine (walk W _ x0 i0 w0 _ x1 i1 w1 _ x2 i2 w2).mono fun e W' ⟨he, bel⟩ => ?_
  subst he
  exact ⟨_, rfl, _, _, _, [], _, [], hW', trodAll_mk1 (shut_bool Try.underlying4 _), (trodAll_cons_mk (Below.trod laidOut (by as_aux_lemma => kernel_rfl) (of_decide_eq_true (by as_aux_lemma => kernel_rfl)) k0 bel lt0) (trodAll_cons_mk (Below.trod laidOut (by as_aux_lemma => kernel_rfl) (of_decide_eq_true (by as_aux_lemma => kernel_rfl)) k1 bel lt1) (trodAll_cons_mk (Below.trod laidOut (by as_aux_lemma => kernel_rfl) (of_decide_eq_true (by as_aux_lemma => kernel_rfl)) k2 bel lt2) (trodAll_mk0)))), rfl, bel.frame _, fun h => by cases h⟩

/-- The given statement. -/
theorem proved : Rows.FnExactIdleMovesSaid :=
  OpenClaim.holds_of_wide 3 Try.f3 rfl rfl rfl rfl rfl rfl rfl ⟨rfl, rfl, rfl, rfl, rfl⟩ rfl rfl rfl rfl rfl (by kernel_rfl) Try.func3 (by kernel_rfl)
    (of_decide_eq_true (by kernel_rfl)) (by unfold Func.isWrapper; first | (rw [if_pos (by decide +kernel)]; kernel_rfl) | (rw [if_neg (by decide +kernel)]; exact ⟨rfl, rfl⟩))
    (fun os started H enc _ => lifted os started H enc)
#print axioms proved

end Go.Proofs.Ytdkmloomlnljlaa.lFnExactIdleMoves
