/- The laws' helpers on slices of records of four int64. -/
import Derived.Test.YtdkmloomlnljlaaSlice
import Derived.Test.YtdkmloomlnljlaaWords
import Derived.Test.YtdkmloomlnljlaaStoreOwn
namespace Go.Proofs.Ytdkmloomlnljlaa
open Go.RowKit Plain
set_option linter.unusedVariables false
set_option linter.unusedSimpArgs false
attribute [local go_sem ↓] Go.wp_at_zero Go.wp_at_succ

theorem keep44 {B1 B2 o1 o2 p1 p2 : Nat} {v0 v1 v2 v3 u0 u1 u2 u3 : Value} {W w w' : World} {o2' o3' p2' p3' : Nat} (h : Below w.heap.size w w')
    (hH : (w.cell? ⟨B1, o1, none⟩ = some v0 ∧ w.cell? ⟨B1, o2, none⟩ = some v1 ∧ w.cell? ⟨B1, o2', none⟩ = some v2 ∧ w.cell? ⟨B1, o3', none⟩ = some v3) ∧ (w.cell? ⟨B2, p1, none⟩ = some u0 ∧ w.cell? ⟨B2, p2, none⟩ = some u1 ∧ w.cell? ⟨B2, p2', none⟩ = some u2 ∧ w.cell? ⟨B2, p3', none⟩ = some u3) ∧ Below W.heap.size W w) :
    (w'.cell? ⟨B1, o1, none⟩ = some v0 ∧ w'.cell? ⟨B1, o2, none⟩ = some v1 ∧ w'.cell? ⟨B1, o2', none⟩ = some v2 ∧ w'.cell? ⟨B1, o3', none⟩ = some v3) ∧ (w'.cell? ⟨B2, p1, none⟩ = some u0 ∧ w'.cell? ⟨B2, p2, none⟩ = some u1 ∧ w'.cell? ⟨B2, p2', none⟩ = some u2 ∧ w'.cell? ⟨B2, p3', none⟩ = some u3) ∧ Below W.heap.size W w' := by
  obtain ⟨⟨k1, k2, k3, k4⟩, ⟨l1, l2, l3, l4⟩, k0⟩ := hH
  exact ⟨⟨below_at h k1, below_at h k2, below_at h k3, below_at h k4⟩, ⟨below_at h l1, below_at h l2, below_at h l3, below_at h l4⟩, below_tr h k0⟩

theorem infoTrip : (Try.prog.info? 37).map (fun i => (i.zero, i.size, i.bytes)) = some (some (.agg #[.int .i64 0, .int .i64 0, .int .i64 0, .int .i64 0]), 4, 32) := by kernel_rfl

set_option maxHeartbeats 400000 in
theorem toTrip_any (a b c d : Int) (w : World) :
    Calls Try.prog 15 #[.agg #[.int .i64 a, .int .i64 b, .int .i64 c, .int .i64 d]] w fun r w' => r = .returned (.agg #[.int .i64 a, .int .i64 b, .int .i64 c, .int .i64 d]) ∧ Below w.heap.size w w' := by
  go_enter Try.func15, Try.ntmps15
  go_wp2
  refine bodyPost_ret (v := .agg #[.int .i64 a, .int .i64 b, .int .i64 c, .int .i64 d]) (by simp [results, Try.results15, go_sem]) rfl ⟨rfl, ?_⟩
  go_grown

set_option maxHeartbeats 400000 in
theorem eqTrip_any (a b c d a' b' c' d' : Int) (w : World) :
    Calls Try.prog 24 #[.agg #[.int .i64 a, .int .i64 b, .int .i64 c, .int .i64 d], .agg #[.int .i64 a', .int .i64 b', .int .i64 c', .int .i64 d']] w fun r w' => r = .returned (.bool (q4eq a b c d a' b' c' d')) ∧ Below w.heap.size w w' := by
  go_enter Try.func24, Try.ntmps24
  go_wp2
  all_goals (go_ret; refine ⟨ret_bool ?_, by go_grown⟩; simp_all [q4eq])

set_option maxHeartbeats 400000 in
theorem szTripS_any (v : Value) (n : Nat) (left : Int) (w : World) (hv : ∃ A cap, v = .slice A n cap ∧ n ≤ maxLen) (h0 : 0 ≤ left) (h1 : left ≤ 1048576) :
    Calls Try.prog 4 #[v, .int .i64 left] w fun r w' => r = .returned (.int .i64 (if left < n then -1 else left - n)) ∧ w = w' := by
  obtain ⟨A, cap, rfl, hm⟩ := hv
  unfold maxLen at hm
  by_cases h : left < (n : Int)
  · rw [if_pos h]
    go_enter Try.func4, Try.ntmps4
    go_wp2
    go_ret
    exact ⟨rfl, rfl⟩
  · rw [if_neg h]
    go_enter Try.func4, Try.ntmps4
    go_wp2
    go_ret
    exact ⟨rfl, rfl⟩

set_option maxHeartbeats 1000000 in
/-- 'laws.toTripS': a copy in new memory. -/
theorem toTripS_any (v : Value) (xs : List Q4) (w : World) (hs : Sl w 4 v xs.length (q4s xs)) (hx : xs.length ≤ 1048576) :
    Calls Try.prog 6 #[v] w (NewRow 37 4 xs.length (q4s xs) w) := by
  obtain ⟨A, cap, rfl, hcap, hr⟩ := hs
  obtain ⟨i0, hi, hz0, hz1, hz2⟩ := info_parts infoTrip
  have hm := size_le hx
  generalize hn : xs.length = n at *
  have Hn := hd hn.symm
  clear hn
  have hb2 : i0.bytes * n ≤ 281474976710656 := by rw [hz2]; omega
  go_enter Try.func6, Try.ntmps6
  go_wp2_with (at_make; go_must (refine wpList_make_full _ rfl (.tmp 6) (.tmp 6) 27 rfl w.heap.size 37 i0 (.agg #[.int .i64 0, .int .i64 0, .int .i64 0, .int .i64 0]) 4 Try.underlying27 hi hz0 hz1 .i64 .i64 _ _ n rfl rfl rfl rfl hb2 hm (Nat.le_refl _) ?_); intro w1 hown hgrow)
  have hb1 := below_none hgrow
  clear hgrow
  have hown1 := hown
  go_loopw [4] (fun i wr => ∃ k : Nat, k ≤ n ∧ i = .int .i64 k ∧ wr.ownsRow w.heap.size 37 4 (.slice (some ⟨w.heap.size, 0, none⟩) n n) n (q4s (xs.take k ++ List.replicate (n - k) ⟨0, 0, 0, 0⟩)) ∧ Below w.heap.size w wr) (fun i _ => n - (intOf i).toNat)
  case atStart =>
    refine ⟨0, by omega, rfl, ?_, hb1⟩
    have e := made_same #[.int .i64 0, .int .i64 0, .int .i64 0, .int .i64 0] (.int .i64 0) (by simp) (by intro i hi; match i, hi with | 0, _ => rfl | 1, _ => rfl | 2, _ => rfl | 3, _ => rfl) (n * 4)
    simp only [Value.cells] at hown1
    rw [e, ← q4s_zero] at hown1
    simpa using hown1
  case round =>
    obtain ⟨k, hk, rfl, ho, hb⟩ := hrel
    clear hown hown1 hb1
    by_cases hlt : k < n
    · obtain ⟨b, off, qa, qb, qc, qd, rfl, hq, c0, c1, c2, c3⟩ := hr.q4 hlt
      have d0 := below_at hb c0
      have d1 := below_at hb c1
      have d2 := below_at hb c2
      have d3 := below_at hb c3
      have hB := hd hb
      clear c0 c1 c2 c3 hb
      go_wp2_with fail
      refine (toTrip_any _ _ _ _ _).mono ?_
      rintro e w' ⟨rfl, hbt⟩
      have ho' := own_below ho hbt
      have hB' := hd (below_tr hbt hB.out)
      clear ho d0 d1 d2 d3 hr hbt
      have f0 := ho'.frozenAt (k * 4)
      have f1 := ho'.frozenAt (k * 4 + 1)
      have f2 := ho'.frozenAt (k * 4 + 2)
      have f3 := ho'.frozenAt (k * 4 + 3)
      obtain ⟨z0, e0⟩ : ∃ z, w'.cell? ⟨w.heap.size, k * 4, none⟩ = some z := own_some ho' (by omega)
      obtain ⟨z1, e1⟩ : ∃ z, w'.cell? ⟨w.heap.size, k * 4 + 1, none⟩ = some z := own_some ho' (by omega)
      obtain ⟨z2, e2⟩ : ∃ z, w'.cell? ⟨w.heap.size, k * 4 + 2, none⟩ = some z := own_some ho' (by omega)
      obtain ⟨z3, e3⟩ : ∃ z, w'.cell? ⟨w.heap.size, k * 4 + 3, none⟩ = some z := own_some ho' (by omega)
      have HO := hd ho'
      clear ho'
      go_wp2
      go_roundw
      case rel =>
        refine ⟨k + 1, by omega, by go_num, ?_, ?_⟩
        · have o1 := (HO.out.stored (k * 4) (.int .i64 qa)).1
          have o2 := (o1.stored (k * 4 + 1) (.int .i64 qb)).1
          have o3 := (o2.stored (k * 4 + 2) (.int .i64 qc)).1
          have o4 := (o3.stored (k * 4 + 3) (.int .i64 qd)).1
          have hl : k < xs.length := by have := Hn.out; omega
          rw [q4s_set (by simp; omega)] at o4
          have e : (xs.take k ++ List.replicate (n - k) (⟨0, 0, 0, 0⟩ : Q4)).set k ⟨qa, qb, qc, qd⟩ = xs.take (k + 1) ++ List.replicate (n - (k + 1)) (⟨0, 0, 0, 0⟩ : Q4) := by
            have := fill_step xs (⟨0, 0, 0, 0⟩ : Q4) k hl
            have hx : xs[k] = ⟨qa, qb, qc, qd⟩ := by have := hq.out; rw [List.getElem?_eq_getElem hl] at this; exact Option.some.inj this
            rw [hx, ← Hn.out] at this
            exact this
          rw [e] at o4
          exact o4
        · exact (((hB'.out.setCell (Nat.le_refl _) _).setCell (Nat.le_refl _) _).setCell (Nat.le_refl _) _).setCell (Nat.le_refl _) _
      case measure => simp [intOf]; omega
    · have hkn : k = n := by omega
      subst hkn
      go_wp2
      go_ret
      refine ⟨_, rfl, ?_, hb⟩
      have := ho
      rw [Hn.out] at this ⊢
      simpa using this
set_option maxHeartbeats 1000000 in
/-- 'laws.eqTripS': the lists are equal. -/
theorem eqTripS_any (v u : Value) (xs ys : List Q4) (w : World) (hs : Sl w 4 v xs.length (q4s xs)) (ht : Sl w 4 u ys.length (q4s ys)) :
    Calls Try.prog 9 #[v, u] w fun r w' => r = .returned (.bool (decide (xs = ys))) ∧ Below w.heap.size w w' := by
  obtain ⟨A, cap, rfl, hcap, hr⟩ := hs
  obtain ⟨A', cap', rfl, hcap', hr'⟩ := ht
  have hm := hr.2.1
  have hm' := hr'.2.1
  unfold maxLen at hm hm'
  generalize hn : xs.length = n at *
  generalize hn' : ys.length = n' at *
  have Hn := hd hn.symm
  have Hn' := hd hn'.symm
  clear hn hn'
  by_cases hnn : n = n'
  · subst hnn
    go_enter Try.func9, Try.ntmps9
    go_wp2
    go_loopw [5] (fun i wr => ∃ k : Nat, k ≤ n ∧ i = .int .i64 k ∧ Hid (xs.take k = ys.take k) ∧ Below w.heap.size w wr) (fun i _ => n - (intOf i).toNat)
    case atStart => exact ⟨0, by omega, rfl, by simp [Hid], Below.refl _ _⟩
    case round =>
      obtain ⟨k, hk, rfl, he, hb⟩ := hrel
      by_cases hlt : k < n
      · obtain ⟨b, off, qa, qb, qc, qd, rfl, hq, c0, c1, c2, c3⟩ := (hr.below hb).q4 hlt
        obtain ⟨b', off', ra, rb, rc, rd, rfl, hq', d0, d1, d2, d3⟩ := (hr'.below hb).q4 hlt
        have Hb := hd hb
        have hb0 : Below wr.heap.size wr wr.drew := (Below.refl _ _).drew
        clear hr hr' hb
        have i1 : (0 : Int) ≤ (k : Int) := by omega
        have i2 : (k : Int) < (n : Int) := by omega
        go_wp2
        go_region_held3 (fun w' => (w'.cell? ⟨b, off + k * 4, none⟩ = some (.int .i64 qa) ∧ w'.cell? ⟨b, off + k * 4 + 1, none⟩ = some (.int .i64 qb) ∧ w'.cell? ⟨b, off + k * 4 + 2, none⟩ = some (.int .i64 qc) ∧ w'.cell? ⟨b, off + k * 4 + 3, none⟩ = some (.int .i64 qd)) ∧
          (w'.cell? ⟨b', off' + k * 4, none⟩ = some (.int .i64 ra) ∧ w'.cell? ⟨b', off' + k * 4 + 1, none⟩ = some (.int .i64 rb) ∧ w'.cell? ⟨b', off' + k * 4 + 2, none⟩ = some (.int .i64 rc) ∧ w'.cell? ⟨b', off' + k * 4 + 3, none⟩ = some (.int .i64 rd)) ∧ Below wr.heap.size wr w')
          (first | go_keep | exact keep44 h (by assumption))
          (first | (go_at_call 24; refine (eqTrip_any _ _ _ _ _ _ _ _ _).mono ?_; rintro e w' ⟨rfl, h⟩))
        have hB2 : Below w.heap.size w _ := below_tr (‹_ ∧ _ ∧ Below wr.heap.size wr _›).2.2 Hb.out
        clear c0 c1 c2 c3 d0 d1 d2 d3 hb0
        go_wp2
        · have h : (!q4eq qa qb qc qd ra rb rc rd) = true := by assumption
          go_ret
          exact ⟨ret_bool (by simpa using ne_of_get hq.out hq'.out (q4eq_f (by simpa using h))), hB2⟩
        · have h : (!q4eq qa qb qc qd ra rb rc rd) = false := by assumption
          go_roundw
          case rel => exact ⟨k + 1, by omega, by go_num, take_succ_of he.out hq.out (q4eq_t (by simpa using h) ▸ hq'.out), hB2⟩
          case measure => simp [intOf]; omega
      · have hkn : k = n := by omega
        subst hkn
        go_wp2
        go_ret
        exact ⟨ret_bool (by simpa using (eq_of_take he.out Hn.out.symm Hn'.out.symm)), hb⟩
  · go_enter Try.func9, Try.ntmps9
    have hne : ¬ ((n : Int) = (n' : Int)) := by omega
    go_wp2
    go_ret
    refine ⟨ret_bool ?_, Below.refl _ _⟩
    symm
    rw [decide_eq_false_iff_not]
    rintro rfl
    exact hnn (Hn.out.trans Hn'.out.symm)

theorem mark_step4 (xs : List Value) (n : Nat) (m : Int) (hl : xs.length = n * 4) (k : Nat) (hk : k < n) :
    (((((((List.range (k * 4)).map fun (i : Nat) => vi (m + (i : Int))) ++ xs.drop (k * 4)).set (k * 4) (.int .i64 (m + (k : Int) * 4))).set (k * 4 + 1) (.int .i64 (m + (k : Int) * 4 + 1))).set (k * 4 + 2) (.int .i64 (m + (k : Int) * 4 + 1 + 1))).set (k * 4 + 3) (.int .i64 (m + (k : Int) * 4 + 1 + 1 + 1)))
      = ((List.range ((k + 1) * 4)).map fun (i : Nat) => vi (m + (i : Int))) ++ xs.drop ((k + 1) * 4) := by
  have ST := fun j (h : j < n * 4) => mark_step (fun (i : Nat) => vi (m + (i : Int))) xs (n * 4) j hl h
  have e0 : (Value.int .i64 (m + (k : Int) * 4)) = vi (m + ((k * 4 : Nat) : Int)) := by rw [vi]; congr 1
  have e1 : (Value.int .i64 (m + (k : Int) * 4 + 1)) = vi (m + ((k * 4 + 1 : Nat) : Int)) := by rw [vi]; congr 1; omega
  have e2 : (Value.int .i64 (m + (k : Int) * 4 + 1 + 1)) = vi (m + ((k * 4 + 2 : Nat) : Int)) := by rw [vi]; congr 1; omega
  have e3 : (Value.int .i64 (m + (k : Int) * 4 + 1 + 1 + 1)) = vi (m + ((k * 4 + 3 : Nat) : Int)) := by rw [vi]; congr 1; omega
  rw [e0, ST _ (by omega), e1, ST _ (by omega), e2, ST _ (by omega), e3, ST _ (by omega), show (k + 1) * 4 = k * 4 + 3 + 1 by omega]

end Go.Proofs.Ytdkmloomlnljlaa
