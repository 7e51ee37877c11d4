/- The laws' helpers on slices of strings that come in: their size, a copy. -/
import Derived.Test.YtfofokofphcdnaaDoorStrS
import Derived.Test.YtfofokofphcdnaaDoorApp
import Derived.Test.YtfofokofphcdnaaDoorCovT
namespace Go.Proofs.YtfofokofphcdnaaDoor
open Go.RowKit Plain
set_option linter.unusedVariables false
set_option linter.unusedSimpArgs false
attribute [local go_sem ↓] Go.wp_at_zero Go.wp_at_succ

theorem Rd.strD {w : World} {A : Option Addr} {n : Nat} {l : List ByteArray} (h : Rd w 1 A n (strs l)) {k : Nat} (hk : k < n) : ∃ b off, A = some ⟨b, off, none⟩ ∧ w.cell? ⟨b, off + k, none⟩ = some (.string (l.getD k ⟨#[]⟩)) := by
  obtain ⟨b, off, s, hA, hs, hc⟩ := h.str hk
  refine ⟨b, off, hA, ?_⟩
  rw [List.getD_eq_getElem?_getD, hs.out]
  exact hc
theorem getD_size {ts : List ByteArray} {B : Nat} (hx : ∀ x ∈ ts, x.size ≤ B) {k : Nat} (hk : k < ts.length) : (ts.getD k ⟨#[]⟩).size ≤ B := by
  rw [List.getD_eq_getElem?_getD, List.getElem?_eq_getElem hk]
  exact hx _ (List.getElem_mem hk)
set_option maxHeartbeats 1000000 in
theorem szStringS_any (v : Value) (ts : List ByteArray) (left : Int) (w : World) (s : Sl w 1 v ts.length (strs ts)) (hx : ∀ x ∈ ts, x.size ≤ maxLen) (h0 : 0 ≤ left) (h1 : left ≤ 1048576) :
    Calls Tryd.prog 4 #[v, .int .i64 left] w fun r w' => r = .returned (.int .i64 (if left < (ts.length : Int) + sizes ts then -1 else left - ((ts.length : Int) + sizes ts))) ∧ w' = w := by
  obtain ⟨A, cap, rfl, hcap, hr⟩ := s
  have hm0 := hr.2.1
  unfold maxLen at hm0
  have SD := hd (fun (k : Nat) (h : k < ts.length) => sizes_drop h)
  have SN := hd (fun k => sizes_nonneg (ts.drop k))
  have SZ := hd (sizes_nonneg ts)
  have SM := hd (fun (k : Nat) (h : k < ts.length) => getD_size hx h)
  have S0 := hd (show sizes (ts.drop 0) = sizes ts by rw [List.drop_zero])
  have SE := hd (sizes_end ts)
  generalize hres : (if left < (ts.length : Int) + sizes ts then (-1 : Int) else left - ((ts.length : Int) + sizes ts)) = res
  have RN := hd (fun (h : left < (ts.length : Int) + sizes ts) => (show res = -1 by rw [← hres, if_pos h]))
  have RY := hd (fun (h : ¬ left < (ts.length : Int) + sizes ts) => (show res = left - ((ts.length : Int) + sizes ts) by rw [← hres, if_neg h]))
  clear hres hx
  generalize sizes ts = Z at *
  generalize hn : ts.length = n at *
  clear hn
  by_cases hbig : left < (n : Int)
  · have e := RN.out (by have := SZ.out; omega)
    subst e
    go_enter Tryd.func4, Tryd.ntmps4
    go_wp2
    go_ret
    exact ⟨rfl, rfl⟩
  · have l2 : ¬ (left - n < (0 : Int)) := by omega
    go_enter Tryd.func4, Tryd.ntmps4
    go_wp2
    go_loopw [1, 5] (fun lf ix wr => ∃ (k : Nat) (l : Int), k ≤ n ∧ 0 ≤ l ∧ l ≤ 1048576 ∧ lf = .int .i64 l ∧ ix = .int .i64 k ∧ Hid (l + (Z - sizes (ts.drop k)) = left - n) ∧ wr = w) (fun _ ix _ => n - (intOf ix).toNat)
    case atStart => exact ⟨0, _, by omega, by omega, by omega, rfl, rfl, hd (by rw [S0.out]; omega), rfl⟩
    case round =>
      obtain ⟨k, l, hk, q0, q1, rfl, rfl, hz, hw⟩ := hrel
      subst hw
      by_cases hlt : k < n
      · obtain ⟨b, off, rfl, hc⟩ := hr.strD hlt
        have m1 := SM.out k hlt
        have D := hd (SD.out k hlt)
        have i1 : (0 : Int) ≤ (k : Int) := by omega
        have i2 : (k : Int) < (n : Int) := by omega
        unfold maxLen at m1
        generalize ts.getD k ⟨#[]⟩ = tx at *
        by_cases hneg : l - (tx.size : Int) < 0
        · have e := RN.out (by have := hz.out; have := D.out; have := SN.out (k + 1); omega)
          subst e
          go_wp2
          go_ret
          exact ⟨rfl, rfl⟩
        · go_wp2
          go_roundw
          case rel => exact ⟨k + 1, l - tx.size, by omega, by omega, by omega, by go_num, by go_num, hd (by have := hz.out; have := D.out; omega), trivial⟩
          case measure => simp [intOf]; omega
      · have hkn : k = n := by omega
        subst hkn
        have e := RY.out (by have := hz.out; have := SE.out; omega)
        have e2 : l = res := by have := hz.out; have := SE.out; omega
        subst e2
        go_wp2
        go_ret
        exact ⟨rfl, rfl⟩
theorem szStringS_b (v : Value) (ts : List ByteArray) (left : Int) (w : World) (s : Sl w 1 v ts.length (strs ts)) (hx : ∀ x ∈ ts, x.size ≤ maxLen) (h0 : 0 ≤ left) (h1 : left ≤ 1048576) :
    Calls Tryd.prog 4 #[v, .int .i64 left] w fun r w' => r = .returned (.int .i64 (if left < (ts.length : Int) + sizes ts then -1 else left - ((ts.length : Int) + sizes ts))) ∧ w = w' :=
  (szStringS_any v ts left w s hx h0 h1).mono fun _ _ h => ⟨h.1, h.2.symm⟩
set_option maxHeartbeats 1000000 in
/-- 'laws.toStringS': a copy in new memory. -/
theorem toStringS_any (v : Value) (xs : List ByteArray) (w : World) (hs : Sl w 1 v xs.length (strs xs)) (hx : xs.length ≤ 1048576) :
    Calls Tryd.prog 6 #[v] w (NewRow 9 1 xs.length (strs xs) w) := by
  obtain ⟨A, cap, rfl, hcap, hr⟩ := hs
  obtain ⟨i0, hi, hz0, hz1, hz2⟩ := info_parts info_string
  have hm := size_le hx
  have FS := hd (fun (k : Nat) (h : k < xs.length) => show ((xs.take k).map Value.string ++ List.replicate (xs.length - k) (Value.string ByteArray.empty)).set k (Value.string (xs.getD k ⟨#[]⟩)) = (xs.take (k + 1)).map Value.string ++ List.replicate (xs.length - (k + 1)) (Value.string ByteArray.empty) by
    have := fill_step (xs.map Value.string) (Value.string ByteArray.empty) k (by simpa using h)
    simpa [h, List.getD_eq_getElem?_getD] using this)
  have FE := hd (show (xs.take xs.length).map Value.string ++ List.replicate (xs.length - xs.length) (Value.string ByteArray.empty) = strs xs by simp [strs])
  generalize hn : xs.length = n at *
  clear hn
  go_enter Tryd.func6, Tryd.ntmps6
  have hb2 : i0.bytes * n ≤ 281474976710656 := by rw [hz2]; omega
  go_wp2_with (at_make; go_must (refine wpList_make_full _ rfl (.tmp 6) (.tmp 6) 22 rfl w.heap.size 9 i0 (.string ByteArray.empty) 1 Tryd.underlying22 hi hz0 hz1 .i64 .i64 _ _ n rfl rfl rfl rfl hb2 hm (Nat.le_refl _) ?_); intro w1 hown hgrow)
  have hb1 := below_none hgrow
  clear hgrow
  have hown1 := hown
  obtain ⟨g0, hg0⟩ : ∃ g, g = w.heap.size := ⟨_, rfl⟩
  rw [← hg0] at hown1 ⊢
  have HG0 := hd hg0
  clear hown hg0
  go_loopw [4] (fun i wr => ∃ k : Nat, k ≤ n ∧ i = .int .i64 k ∧ wr.ownsRow g0 9 1 (.slice (some ⟨g0, 0, none⟩) n n) n ((xs.take k).map Value.string ++ List.replicate (n - k) (Value.string ByteArray.empty)) ∧ Below w.heap.size w wr) (fun i _ => n - (intOf i).toNat)
  case atStart =>
    refine ⟨0, by omega, rfl, ?_, hb1⟩
    simpa [toList_madeCells_one, Value.cells] using hown1
  case round =>
    obtain ⟨k, hk, rfl, ho, hb⟩ := hrel
    clear hown1 hb1
    by_cases hlt : k < n
    · obtain ⟨b, off, rfl, hc⟩ := (hr.below hb).strD hlt
      have F := hd (FS.out k hlt)
      have i1 : (0 : Int) ≤ (k : Int) := by omega
      have i2 : (k : Int) < (n : Int) := by omega
      have HO := hd ho
      have HB := hd hb
      clear ho hb
      generalize xs.getD k ⟨#[]⟩ = tx at *
      go_wp2_with ((with_reducible refine wpList_store_own _ g0 9 1 n n g0 _ HO.out size_string ?_ ?_ ?_ ?_ ?_ ?_ ?_); rotate_left 2; exact rfl; exact rfl; exact rfl; omega; intro w3 ho3 hg3)
      go_roundw
      case rel =>
        refine ⟨k + 1, by omega, by go_num, ?_, ?_⟩
        · rw [← F.out]; exact ho3
        · exact below_row hg3 HB.out (fun k hk => by cases hk; have := HG0.out; omega)
      case measure => simp [intOf]; omega
    · have hkn : k = n := by omega
      subst hkn
      go_wp2
      go_ret
      refine ⟨_, rfl, ?_, hb⟩
      rw [FE.out] at ho
      rw [← HG0.out]
      exact ho
end Go.Proofs.YtfofokofphcdnaaDoor
