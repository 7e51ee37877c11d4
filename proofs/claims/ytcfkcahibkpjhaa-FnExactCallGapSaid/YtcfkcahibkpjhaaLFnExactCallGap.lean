/- Whatever calls and number of people are given, the program's CallGap and the reference's return the same number and bool, and the law's own copies are left as they were: the law returns true. No condition. -/
import Derived.Test.YtcfkcahibkpjhaaRows
import Derived.Test.YtcfkcahibkpjhaaSlice
import Derived.Test.YtcfkcahibkpjhaaWords
import Derived.Test.YtcfkcahibkpjhaaNum
import Derived.Test.YtcfkcahibkpjhaaMaxMin
import Derived.Test.YtcfkcahibkpjhaaOpen
namespace Go.Proofs.Ytcfkcahibkpjhaa.lFnExactCallGap
open Go.ChangeShapes Go.WideShapes Go.ChangeAt Go.RowKit Go.Proofs.Ytcfkcahibkpjhaa Plain
set_option linter.unusedVariables false
set_option linter.unusedSimpArgs false
attribute [local go_sem ↓] Go.wp_at_zero Go.wp_at_succ

/-- one count more at x -/
def bump (c : List Int) (x : Int) : List Int := c.set x.toNat (c.getD x.toNat 0 + 1)
/-- how often each of the first n numbers occurs -/
def tally (n : Nat) (l : List Int) : List Int := l.foldl bump (List.replicate n 0)
theorem tally_snoc (n : Nat) (l : List Int) (k : Nat) (y : Nat) (h : l[k]? = some (y : Int)) : tally n (l.take (k + 1)) = (tally n (l.take k)).set y ((tally n (l.take k)).getD y 0 + 1) := by
  rw [List.take_add_one, h, tally, List.foldl_append]
  rfl
theorem bump_len (c : List Int) (x : Int) : (bump c x).length = c.length := by simp [bump]
theorem tally_len (n : Nat) (l : List Int) : (tally n l).length = n := by
  suffices h : ∀ (l : List Int) (c : List Int), (l.foldl bump c).length = c.length by rw [tally, h]; simp
  intro l
  induction l with
  | nil => intro c; rfl
  | cons x l ih => intro c; rw [List.foldl_cons, ih, bump_len]
theorem tally_bd (n : Nat) (l : List Int) (i : Nat) : 0 ≤ (tally n l).getD i 0 ∧ (tally n l).getD i 0 ≤ l.length := by
  suffices h : ∀ (l : List Int) (c : List Int) (b : Int), (∀ i, 0 ≤ c.getD i 0 ∧ c.getD i 0 ≤ b) → ∀ i, 0 ≤ (l.foldl bump c).getD i 0 ∧ (l.foldl bump c).getD i 0 ≤ b + l.length by
    have := h l (List.replicate n 0) 0 (fun i => by
      rw [List.getD_eq_getElem?_getD, List.getElem?_replicate]; split <;> simp) i
    rw [tally]; simpa using this
  intro l
  induction l with
  | nil => intro c b h i; simpa using h i
  | cons x l ih =>
    intro c b h i
    rw [List.foldl_cons]
    have := ih (bump c x) (b + 1) (fun i => by
      have h1 := h i
      have h2 := h x.toNat
      have : (bump c x).getD i 0 = c.getD i 0 ∨ (bump c x).getD i 0 = c.getD x.toNat 0 + 1 := by
        simp only [bump, List.getD_eq_getElem?_getD, List.getElem?_set]
        split
        · split
          · right; simp
          · left; rename_i h3 h4; subst h3; simp [h4]
        · left; rfl
      omega) i
    simp only [List.length_cons]
    omega
/-- the greatest number of calls less the least -/
def M (xs : List Int) (p : Int) : Int × Bool :=
  if inR p 1 12 && manyIn xs 1 128 0 (p - 1) then (maxTo (tally p.toNat xs) p.toNat - minTo (tally p.toNat xs) p.toNat, true) else (0, false)

set_option maxHeartbeats 1000000 in
theorem impl_any (w : World) (v0 : Value) (x0 : List Int) (i0 : ∀ x ∈ x0, I64 x) (b0 : x0.length ≤ 1048576) (s0 : Sl w 1 v0 x0.length (x0.map vi)) (p : Int) (i1 : I64 p) :
    Calls Try.prog 75 #[v0, .int .i64 p] w fun r w' => r = .returned (.tuple #[.int .i64 (M x0 p).1, .bool (M x0 p).2]) ∧ Below w.heap.size w w' := by
  have s0' := s0
  obtain ⟨A, cap, rfl, hcap, hr⟩ := s0
  cases h1 : inR p 1 12 with
  | false =>
    have H := hd (show M x0 p = (0, false) by rw [M, h1]; rfl)
    go_enter Try.func75, Try.ntmps75
    go_wp2_with (go_at_call 118; refine (arePeople_any _ _).mono ?_; rintro e w' ⟨rfl, rfl⟩)
    go_ret2
    rw [H.out]
    exact ⟨rfl, Below.refl _ _⟩
  | true =>
    obtain ⟨p1, p2⟩ := inR_iff.1 h1
    obtain ⟨m, rfl⟩ := Int.eq_ofNat_of_zero_le (show 0 ≤ p by omega)
    cases h2 : manyIn x0 1 128 0 ((m : Int) - 1) with
    | false =>
      have H := hd (show M x0 m = (0, false) by rw [M, h1, h2]; rfl)
      have HM := hd (fun W h => areMany_any (.slice A x0.length cap) x0 1 128 0 ((m : Int) - 1) W h)
      rw [h2] at HM
      clear h2
      go_enter Try.func75, Try.ntmps75
      go_wp2_with (first | (go_at_call 118; refine (arePeople_any _ _).mono ?_; rintro e w' ⟨rfl, rfl⟩) | (go_at_call 139; refine (HM.out _ s0').mono ?_; rintro e w' ⟨rfl, rfl⟩))
      go_ret2
      rw [H.out]
      exact ⟨rfl, Below.refl _ _⟩
    | true =>
      have H := hd (show M x0 m = (maxTo (tally m x0) m - minTo (tally m x0) m, true) by rw [M, h1, h2]; rfl)
      have hbd : ∀ k, k < x0.length → ∃ y : Nat, x0[k]? = some (y : Int) ∧ y < m := by
        intro k hk
        simp only [manyIn, Bool.and_eq_true, List.all_eq_true, inR_iff] at h2
        have := h2.2.2 x0[k] (List.getElem_mem _)
        exact ⟨x0[k].toNat, by rw [List.getElem?_eq_getElem hk]; congr 1; omega, by omega⟩
      have hlen : x0.length ≤ 128 := by
        simp only [manyIn, Bool.and_eq_true, decide_eq_true_eq] at h2
        omega
      obtain ⟨e0, hi, hz0, hz1, hz2⟩ := info_parts infoI64
      have HM := areMany_any (.slice A x0.length cap) x0 1 128 0 ((m : Int) - 1) w s0'
      rw [h2] at HM
      clear h2 s0' h1
      have hp := inR_iff.2 ⟨p1, p2⟩
      have hb2 : e0.bytes * m ≤ 281474976710656 := by rw [hz2]; omega
      have hmm := size_le (show m ≤ 1048576 by omega)
      generalize hn : x0.length = n at *
      have HM := hd HM
      have Hn := hd hn
      have Hbd := hd hbd
      clear hn hbd i0 i1
      go_enter Try.func75, Try.ntmps75
      go_wp2_with (first
        | (go_at_call 118; refine (arePeople_any _ _).mono ?_; rintro e w' ⟨rfl, rfl⟩)
        | (go_at_call 139; refine HM.out.mono ?_; rintro e w' ⟨rfl, rfl⟩)
        | (at_make; go_must (refine wpList_make_full _ rfl (.tmp 19) (.tmp 19) 28 rfl w.heap.size 2 e0 (.int .i64 0) 1 Try.underlying28 hi hz0 hz1 .i64 .i64 _ _ m rfl rfl rfl rfl hb2 hmm (Nat.le_refl _) ?_); intro w1 hown hgrow))
      clear hp
      have hb1 := below_none hgrow
      clear hgrow
      go_loopw [23] (fun i wr => ∃ k : Nat, k ≤ n ∧ i = .int .i64 k ∧ wr.ownsRow w.heap.size 2 1 (.slice (some ⟨w.heap.size, 0, none⟩) m m) m ((tally m (x0.take k)).map vi) ∧ Below w.heap.size w wr) (fun i _ => n - (intOf i).toNat)
      case atStart =>
        refine ⟨0, by omega, rfl, ?_, hb1⟩
        simpa [toList_madeCells_one, vi, Value.cells, tally] using hown
      case round =>
        obtain ⟨k, hk, rfl, ho, hb⟩ := hrel
        clear hown hb1
        by_cases hlt : k < n
        · obtain ⟨b', off, rfl, hc⟩ := (hr.below hb).int hlt
          obtain ⟨y, hy, hym⟩ := Hbd.out k hlt
          have ey : x0.getD k 0 = y := by rw [List.getD_eq_getElem?_getD, hy]; rfl
          rw [ey] at hc
          have Hsn := hd (tally_snoc m x0 k y hy)
          have hbt := tally_bd m (x0.take k) y
          have htl := tally_len m (x0.take k)
          have hlk : (x0.take k).length ≤ k := by simp; omega
          generalize tally m (x0.take k) = t at *
          obtain ⟨z, hz⟩ : ∃ z, t.getD y 0 = z := ⟨_, rfl⟩
          have hcell := ho.cellAt y (by omega)
          have hfro := ho.frozenAt y
          have e1 : (t.map vi)[y]? = some (.int .i64 z) := by
            rw [List.getElem?_map, ← hz, List.getD_eq_getElem?_getD, List.getElem?_eq_getElem (by omega)]; rfl
          rw [e1] at hcell
          rw [hz] at hbt
          obtain ⟨z1, z2⟩ := hbt
          have z3 : z ≤ 1048576 := by omega
          have Hz := hd hz
          have Hst := hd (ho.stored y (vi (z + 1)))
          have Hb := hd hb
          clear hr hb ey hy hz htl e1 ho
          go_wp2
          go_roundw
          case rel =>
            refine ⟨k + 1, by omega, by go_num, ?_, Hb.out.setCell (Nat.le_refl _) _⟩
            have := Hst.out.1
            rw [Hsn.out, Hz.out, List.map_set]
            exact this
          case measure => simp [intOf]; omega
        · have e : k = n := by omega
          subst e
          have e2 : x0.take k = x0 := List.take_of_length_le (by have := Hn.out; omega)
          rw [e2] at ho
          have htl := tally_len m x0
          have hsl := own_sl ho hmm
          have Hmax := hd (fun W h => slicesMax_any (.slice (some ⟨w.heap.size, 0, none⟩) m m) (tally m x0) W h (by omega))
          have Hmin := hd (fun W h => slicesMin_any (.slice (some ⟨w.heap.size, 0, none⟩) m m) (tally m x0) W h (by omega))
          have hg := maxTo_bd (xs := tally m x0) (lo := 0) (hi := x0.length) (fun i _ => tally_bd m x0 i) (by omega) m (by omega)
          have hl := minTo_bd (xs := tally m x0) (lo := 0) (hi := x0.length) (fun i _ => tally_bd m x0 i) (by omega) m (by omega)
          rw [htl] at Hmax Hmin
          have Hn2 := Hn.out
          rw [Hn2] at hg hl
          clear Hn2 htl e2
          generalize tally m x0 = t at *
          go_wp2_with (first | (go_at_call 83; refine (Hmax.out _ hsl).mono ?_; rintro e w' ⟨rfl, rfl⟩) | (go_at_call 140; refine (Hmin.out _ hsl).mono ?_; rintro e w' ⟨rfl, rfl⟩))
          go_ret2
          rw [H.out]
          exact ⟨rfl, hb⟩

theorem M_no {xs : List Int} {p : Int} {k : Nat} (hk : k < xs.length) (h : ¬ inR (xs[k]?.getD 0) 0 (p - 1) = true) : M xs p = (0, false) := by
  have e : manyIn xs 1 128 0 (p - 1) = false := by
    rw [Bool.eq_false_iff]
    intro hm
    simp only [manyIn, Bool.and_eq_true, List.all_eq_true] at hm
    have := hm.2.2 xs[k] (List.getElem_mem _)
    rw [getD_of hk] at h
    exact h this
  rw [M, e, Bool.and_false]; rfl
/-- the first k numbers are below p -/
def okTo (xs : List Int) (p : Int) (k : Nat) : Prop := ∀ j, j < k → inR (xs.getD j 0) 0 (p - 1) = true
theorem okTo_succ {xs : List Int} {p : Int} {k : Nat} (h : okTo xs p k) (h1 : inR (xs[k]?.getD 0) 0 (p - 1) = true) : okTo xs p (k + 1) := by
  intro j hj
  by_cases e : j = k
  · subst e; rw [List.getD_eq_getElem?_getD]; exact h1
  · exact h j (by omega)
theorem M_yes {xs : List Int} {p : Int} (hp : inR p 1 12 = true) (h1 : 1 ≤ xs.length) (h2 : xs.length ≤ 128) (h : okTo xs p xs.length) : M xs p = (maxTo (tally p.toNat xs) p.toNat - minTo (tally p.toNat xs) p.toNat, true) := by
  have e : manyIn xs 1 128 0 (p - 1) = true := by
    simp only [manyIn, Bool.and_eq_true, List.all_eq_true, decide_eq_true_eq]
    refine ⟨by omega, by omega, fun x hx => ?_⟩
    obtain ⟨i, hi, rfl⟩ := List.getElem_of_mem hx
    have := h i hi
    rwa [List.getD_eq_getElem?_getD, List.getElem?_eq_getElem hi] at this
  rw [M, hp, e]; rfl

set_option maxHeartbeats 2000000 in
set_option maxRecDepth 100000 in
theorem spec_any (w : World) (v0 : Value) (x0 : List Int) (i0 : ∀ x ∈ x0, I64 x) (b0 : x0.length ≤ 1048576) (s0 : Sl w 1 v0 x0.length (x0.map vi)) (p : Int) (i1 : I64 p) :
    Calls Try.prog 74 #[v0, .int .i64 p] w fun r w' => r = .returned (.tuple #[.int .i64 (M x0 p).1, .bool (M x0 p).2]) ∧ Below w.heap.size w w' := by
  obtain ⟨A, cap, rfl, hcap, hr⟩ := s0
  have hm := hr.2.1
  unfold maxLen at hm
  cases h1 : inR p 1 12 with
  | false =>
    have H := hd (show M x0 p = (0, false) by rw [M, h1]; rfl)
    go_enter Try.func74, Try.ntmps74
    go_wp2_with (go_at_call 115; refine (l00In_any _ _ _ _).mono ?_; rintro e w' ⟨rfl, rfl⟩)
    go_ret2
    rw [H.out]
    exact ⟨rfl, Below.refl _ _⟩
  | true =>
    obtain ⟨p1, p2⟩ := inR_iff.1 h1
    obtain ⟨m, rfl⟩ := Int.eq_ofNat_of_zero_le (show 0 ≤ p by omega)
    by_cases l1 : (1 : Int) ≤ x0.length
    rotate_left
    · have H := hd (show M x0 m = (0, false) by rw [M, manyIn, decide_eq_false l1, Bool.false_and, Bool.and_false]; rfl)
      have l1' : ¬ (1 ≤ (x0.length : Int)) := l1
      go_enter Try.func74, Try.ntmps74
      go_wp2_with (go_at_call 115; refine (l00In_any _ _ _ _).mono ?_; rintro e w' ⟨rfl, rfl⟩)
      go_ret2
      rw [H.out]
      exact ⟨rfl, Below.refl _ _⟩
    by_cases l2 : (x0.length : Int) ≤ 128
    rotate_left
    · have H := hd (show M x0 m = (0, false) by rw [M, manyIn, decide_eq_false l2, Bool.false_and, Bool.and_false, Bool.and_false]; rfl)
      go_enter Try.func74, Try.ntmps74
      go_wp2_with (go_at_call 115; refine (l00In_any _ _ _ _).mono ?_; rintro e w' ⟨rfl, rfl⟩)
      go_ret2
      rw [H.out]
      exact ⟨rfl, Below.refl _ _⟩
    obtain ⟨e0, hi, hz0, hz1, hz2⟩ := info_parts infoI64
    have hp := hd h1
    have hb2 : e0.bytes * m ≤ 281474976710656 := by rw [hz2]; omega
    have hmm := size_le (show m ≤ 1048576 by omega)
    generalize hn : x0.length = n at *
    have Hn := hd hn
    clear hn i0 i1
    go_enter Try.func74, Try.ntmps74
    go_wp2_with (first
      | (go_at_call 115; refine (l00In_any _ _ _ _).mono ?_; rintro e w' ⟨rfl, rfl⟩)
      | (at_make; go_must (refine wpList_make_full _ rfl (.tmp 23) (.tmp 23) 28 rfl w.heap.size 2 e0 (.int .i64 0) 1 Try.underlying28 hi hz0 hz1 .i64 .i64 _ _ m rfl rfl rfl rfl hb2 hmm (Nat.le_refl _) ?_); intro w1 hown hgrow))
    clear h1
    have hb1 := below_none hgrow
    clear hgrow
    go_loopw [7] (fun i wr => ∃ k : Nat, k ≤ n ∧ i = .int .i64 k ∧ Hid (okTo x0 m k) ∧ wr.ownsRow w.heap.size 2 1 (.slice (some ⟨w.heap.size, 0, none⟩) m m) m ((tally m (x0.take k)).map vi) ∧ Below w.heap.size w wr) (fun i _ => n - (intOf i).toNat)
    case atStart =>
      refine ⟨0, by omega, rfl, by simp [Hid, okTo], ?_, hb1⟩
      simpa [toList_madeCells_one, vi, Value.cells, tally] using hown
    case round =>
      obtain ⟨k, hk, rfl, hok, ho, hb⟩ := hrel
      clear hown hb1
      by_cases hlt : k < n
      · obtain ⟨b', off, rfl, hc⟩ := (hr.below hb).int hlt
        have hkl : k < x0.length := by have := Hn.out; omega
        cases hin : inR (x0[k]?.getD 0) 0 ((m : Int) - 1) with
        | false =>
          have H := hd (M_no hkl (by rw [hin]; simp))
          have Hb := hd hb
          clear hr hb ho hkl
          rw [List.getD_eq_getElem?_getD] at hc
          generalize x0[k]?.getD 0 = q at *
          go_wp2_with (go_at_call 115; refine (l00In_any _ _ _ _).mono ?_; rintro e w' ⟨rfl, rfl⟩)
          go_ret2
          rw [H.out]
          exact ⟨rfl, Hb.out⟩
        | true =>
          have Hok := hd (okTo_succ hok.out hin)
          obtain ⟨q1, q2⟩ := inR_iff.1 hin
          obtain ⟨y, hy0⟩ := Int.eq_ofNat_of_zero_le q1
          rw [hy0] at hin q2
          have hy : x0[k]? = some (y : Int) := by rw [List.getElem?_eq_getElem hkl] at hy0 ⊢; exact congrArg some hy0
          have hym : y < m := by omega
          have ey : x0.getD k 0 = y := by rw [List.getD_eq_getElem?_getD, hy]; rfl
          rw [ey] at hc
          have Hsn := hd (tally_snoc m x0 k y hy)
          have hbt := tally_bd m (x0.take k) y
          have htl := tally_len m (x0.take k)
          have hlk : (x0.take k).length ≤ k := by simp; omega
          generalize tally m (x0.take k) = t at *
          obtain ⟨z, hz⟩ : ∃ z, t.getD y 0 = z := ⟨_, rfl⟩
          have hcell := ho.cellAt y (by omega)
          have hfro := ho.frozenAt y
          have e1 : (t.map vi)[y]? = some (.int .i64 z) := by
            rw [List.getElem?_map, ← hz, List.getD_eq_getElem?_getD, List.getElem?_eq_getElem (by omega)]; rfl
          rw [e1] at hcell
          rw [hz] at hbt
          obtain ⟨z1, z2⟩ := hbt
          have z3 : z ≤ 1048576 := by omega
          have Hz := hd hz
          have Hst := hd (ho.stored y (vi (z + 1)))
          have Hb := hd hb
          clear hr hb ey hy hz htl e1 ho hy0 hok
          go_wp2_with (go_at_call 115; refine (l00In_any _ _ _ _).mono ?_; rintro e w' ⟨rfl, rfl⟩)
          go_roundw
          case rel =>
            refine ⟨k + 1, by omega, by go_num, Hok, ?_, Hb.out.setCell (Nat.le_refl _) _⟩
            have := Hst.out.1
            rw [Hsn.out, Hz.out, List.map_set]
            exact this
          case measure => simp [intOf]; omega
      · have e : k = n := by omega
        subst e
        have e2 : x0.take k = x0 := List.take_of_length_le (by have := Hn.out; omega)
        rw [e2] at ho
        have Hn2 := Hn.out
        have H := hd (M_yes hp.out (by omega) (by omega) (Hn2 ▸ hok.out))
        have htl := tally_len m x0
        have hsl := own_sl ho hmm
        have Hmax := hd (fun W h => l02Greatest_any (.slice (some ⟨w.heap.size, 0, none⟩) m m) (tally m x0) W h (by omega))
        have hg := maxTo_bd (xs := tally m x0) (lo := 0) (hi := x0.length) (fun i _ => tally_bd m x0 i) (by omega) m (by omega)
        have hl := fun j (hj : j ≤ m) => minTo_bd (xs := tally m x0) (lo := 0) (hi := x0.length) (fun i _ => tally_bd m x0 i) (by omega) j (by omega)
        rw [htl] at Hmax
        rw [Hn2] at hg hl
        clear Hn2 htl e2 hok
        have hA := (hsl)
        obtain ⟨A1, cap1, hv1, _, hr1⟩ := hA
        cases hv1
        simp only [Int.toNat_natCast] at H
        generalize tally m x0 = t at *
        obtain ⟨b1, off1, hA1, hc0⟩ := hr1.int (k := 0) (by omega)
        cases hA1
        simp only [Nat.add_zero] at hc0
        have hm1 : (0 : Int) < (m : Int) := by omega
        have HL := hd hl
        clear hl hr ho
        go_wp2
        go_loop [8, 9] (fun q i => ∃ j : Nat, 1 ≤ j ∧ j ≤ m ∧ i = .int .i64 j ∧ q = .int .i64 (minTo t j)) (fun _ i => m - (intOf i).toNat)
        case atStart => exact ⟨1, by omega, by omega, rfl, by simp [minTo]⟩
        case round =>
          obtain ⟨j, hj1, hj, rfl, rfl⟩ := hrel
          by_cases hjm : j < m
          · obtain ⟨b2, off2, hA2, hc⟩ := hr1.int hjm
            cases hA2
            simp only [Nat.zero_add] at hc
            go_wp2_with (go_at_call 137; refine (l00Min_any _ _ _).mono ?_; rintro e w' ⟨rfl, rfl⟩)
            go_round
            case rel => exact ⟨j + 1, by omega, by omega, by go_num, by simp [minTo, List.getD_eq_getElem?_getD]⟩
            case measure => simp [intOf]; omega
          · have e : j = m := by omega
            subst e
            obtain ⟨y1, y2⟩ := HL.out j (by omega)
            go_wp2_with (go_at_call 138; refine (Hmax.out _ hsl).mono ?_; rintro e w' ⟨rfl, rfl⟩)
            go_ret2
            rw [H.out]
            exact ⟨rfl, hb⟩

set_option maxHeartbeats 2000000 in
set_option maxRecDepth 100000 in
theorem walk (w : World) (v0 : Value) (x0 : List Int) (i0 : ∀ x ∈ x0, I64 x) (s0 : Sl w 1 v0 x0.length (x0.map vi)) (a1 : Int) (i1 : I64 a1) :
    Calls Try.prog 14 #[v0, .int .i64 a1] w fun e w' => e = .returned (.bool true) ∧ Below w.heap.size w w' := by
  obtain ⟨A0, cap0, hw0, _, hr0⟩ := id s0
  have hv0 := hd hw0; clear hw0
  have hm0 := hr0.2.1
  by_cases b0 : x0.length ≤ 1048576
  rotate_left
  · have e0 := hv0.out; subst e0
    unfold maxLen at hm0
    have hx' : ¬ ((x0.length : Int) ≤ 1048576) := by omega
    go_enter Try.func14, Try.ntmps14
    go_wp2
    go_ret
    exact ⟨rfl, Below.refl _ _⟩
  have hx0 : (x0.length : Int) ≤ 1048576 := by omega
  have z0 := size_le b0
  have hB := Below.refl w.heap.size w
  clear hr0 hm0
  have e0 := hv0.out; subst e0; clear hv0
  go_enter Try.func14, Try.ntmps14
  go_wp2_with fail
  refine (toInt64S_any _ x0 _ (s0.below hB) b0).mono ?_; rintro e w1 ⟨s0_, rfl, ho_s0_, hb⟩
  replace ho_s0_ := own_mono ho_s0_ hB.size
  replace hB := below_tr hb hB
  clear hb
  go_wp2_with fail
  refine (spec_any _ _ x0 i0 b0 (own_sl ho_s0_ z0) a1 i1).mono ?_; rintro e w2 ⟨rfl, hb⟩
  replace ho_s0_ := own_below ho_s0_ hb
  replace hB := below_tr hb hB
  clear hb
  clear ho_s0_
  go_wp2_with fail
  refine (toInt64S_any _ x0 _ (s0.below hB) b0).mono ?_; rintro e w3 ⟨x0_, rfl, ho_x0_, hb⟩
  replace ho_x0_ := own_mono ho_x0_ hB.size
  replace hB := below_tr hb hB
  clear hb
  go_wp2_with fail
  refine (impl_any _ _ x0 i0 b0 (own_sl ho_x0_ z0) a1 i1).mono ?_; rintro e w4 ⟨rfl, hb⟩
  replace ho_x0_ := own_below ho_x0_ hb
  replace hB := below_tr hb hB
  clear hb
  go_wp2_with fail
  refine (toInt64S_any _ x0 _ (s0.below hB) b0).mono ?_; rintro e w5 ⟨c0_, rfl, ho_c0_, hb⟩
  have d_x0__c0_ := dj_new ho_x0_ ho_c0_
  replace ho_x0_ := own_below ho_x0_ hb
  replace ho_c0_ := own_mono ho_c0_ hB.size
  replace hB := below_tr hb hB
  clear hb
  go_wp2_with fail
  refine (eqInt64S_b _ _ x0 x0 _ (own_sl ho_x0_ z0) (own_sl ho_c0_ z0)).mono ?_; rintro e w6 ⟨rfl, hb⟩
  replace ho_x0_ := own_below ho_x0_ hb
  replace ho_c0_ := own_below ho_c0_ hb
  replace hB := below_tr hb hB
  clear hb
  clear ho_c0_ d_x0__c0_
  go_wp2_with fail
  go_ret
  exact ⟨rfl, hB⟩

theorem own : ownKnob Try.prog.godebug = none := by kernel_rfl
theorem laidOut : laidOutB Try.prog = true := by kernel_rfl

set_option maxRecDepth 100000 in
theorem lifted (os : Os) (started : os.Started) (H : Type) (enc : TypeId × Value → H) :
    ReturnsInHanded {} Try.checked os 14 .any (Rows.fnExactCallGapSpec.pre6 enc Try.prog Try.f14 Rows.fnExactCallGapRow.domain false) (Rows.fnExactCallGapSpec.post enc Try.prog Try.f14 false true false false) := by
  refine returnsInHanded_of_change (C := Try.checked) own started (by as_aux_lemma => kernel_rfl) Try.func14
    (ChangeSpec.witness6 (enc := enc) (C := Try.checked) false ⟨#[], #[.slice none 0 0, .int .i64 0], []⟩ 8 (by as_aux_lemma => kernel_rfl) (by as_aux_lemma => kernel_rfl) (by as_aux_lemma => kernel_rfl) (by as_aux_lemma => kernel_rfl)) ?_
  intro W base args ds gs before hval0 hW hcnd _
  have hval : ∀ (j : Nat) t v, Try.f14.params[j]? = some t → args[j]? = some v → Value.okWide Try.prog W .any base t v := hval0
  have hW' := hW
  obtain ⟨p, q, hA0, hV, rfl, hfz, hnd⟩ := hW
  have hA : DataW.TrodAll enc Try.prog W 0 (fun _ => true) true Try.f14.params.toList args.toList ds p := hA0
  rw [Try.params14] at hA hval
  obtain ⟨v0, vs0, d0, ds0, p0, q0, hargs, rfl, rfl, h0, r0⟩ := trodAll_cons hA
  obtain ⟨v1, vs1, d1, ds1, p1, q1, rfl, rfl, rfl, h1, r1⟩ := trodAll_cons r0
  obtain ⟨rfl, rfl, rfl⟩ := trodAll_nil r1
  obtain rfl : args = #[v0, v1] := by cases args; simp_all
  obtain ⟨rfl, rfl⟩ := trodVars_none hV
  have k0 := h0
  have lt0 : ∀ x ∈ p0, x.block < W.heap.size := by obtain ⟨m, hm⟩ := k0; exact DataW.trod_lt m _ _ _ hm
  obtain ⟨s0, len0, cap0, rfl⟩ := okWide_slice Try.underlying28 (hval 0 28 v0 rfl rfl)
  obtain ⟨x0, _, i0, w0⟩ := arg_ints Try.underlying28 Try.underlying2 (by as_aux_lemma => kernel_rfl) h0
  obtain ⟨a1, rfl, rfl, rfl, w1⟩ := open_int Try.underlying2 (hval 1 2 v1 rfl rfl) h1
  clear hA0 hval0
  refine (walk W _ x0 i0 w0 a1 (i64_of_wf w1)).mono fun e W' ⟨he, bel⟩ => ?_
  subst he
  exact ⟨_, rfl, _, _, _, [], _, [], hW', trodAll_mk1 (shut_bool Try.underlying4 _), (trodAll_cons_mk (Below.trod laidOut (by as_aux_lemma => kernel_rfl) (of_decide_eq_true (by as_aux_lemma => kernel_rfl)) k0 bel lt0) (trodAll_cons_mk (shut_int Try.underlying2 w1) (trodAll_mk0))), rfl, bel.frame _, fun h => by cases h⟩

/-- The given statement. -/
theorem proved : Rows.FnExactCallGapSaid :=
  OpenClaim.holds_of_wide 14 Try.f14 rfl rfl rfl rfl rfl rfl rfl ⟨rfl, rfl, rfl, rfl, rfl⟩ rfl rfl rfl rfl rfl (by kernel_rfl) Try.func14 (by kernel_rfl)
    (of_decide_eq_true (by kernel_rfl)) (by unfold Func.isWrapper; first | (rw [if_pos (by decide +kernel)]; kernel_rfl) | (rw [if_neg (by decide +kernel)]; exact ⟨rfl, rfl⟩))
    (fun os started H enc _ => lifted os started H enc)
#print axioms proved

end Go.Proofs.Ytcfkcahibkpjhaa.lFnExactCallGap
