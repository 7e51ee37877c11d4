/- CallGap of the program: a contract (cut from the law's text). -/
import Derived.Test.YtfeehfmiicleaaaProg
import Derived.Test.YtfeehfmiicleaaaSlice
import Derived.Test.YtfeehfmiicleaaaWords
import Derived.Test.YtfeehfmiicleaaaNum
import Derived.Test.YtfeehfmiicleaaaMaxMin
namespace Go.Proofs.Ytfeehfmiicleaaa.GapI
open Go.RowKit Go.Proofs.Ytfeehfmiicleaaa Plain
set_option linter.unusedVariables false
set_option linter.unusedSimpArgs false
attribute [local go_sem ↓] Go.wp_at_zero Go.wp_at_succ

/-- one count more at x -/
def bump (c : List Int) (x : Int) : List Int := c.set x.toNat (c.getD x.toNat 0 + 1)
/-- how often each of the first n numbers occurs -/
def tally (n : Nat) (l : List Int) : List Int := l.foldl bump (List.replicate n 0)
theorem tally_snoc (n : Nat) (l : List Int) (k : Nat) (y : Nat) (h : l[k]? = some (y : Int)) : tally n (l.take (k + 1)) = (tally n (l.take k)).set y ((tally n (l.take k)).getD y 0 + 1) := by
  rw [List.take_add_one, h, tally, List.foldl_append]
  rfl
theorem bump_len (c : List Int) (x : Int) : (bump c x).length = c.length := by simp [bump]
theorem tally_len (n : Nat) (l : List Int) : (tally n l).length = n := by
  suffices h : ∀ (l : List Int) (c : List Int), (l.foldl bump c).length = c.length by rw [tally, h]; simp
  intro l
  induction l with
  | nil => intro c; rfl
  | cons x l ih => intro c; rw [List.foldl_cons, ih, bump_len]
theorem tally_bd (n : Nat) (l : List Int) (i : Nat) : 0 ≤ (tally n l).getD i 0 ∧ (tally n l).getD i 0 ≤ l.length := by
  suffices h : ∀ (l : List Int) (c : List Int) (b : Int), (∀ i, 0 ≤ c.getD i 0 ∧ c.getD i 0 ≤ b) → ∀ i, 0 ≤ (l.foldl bump c).getD i 0 ∧ (l.foldl bump c).getD i 0 ≤ b + l.length by
    have := h l (List.replicate n 0) 0 (fun i => by
      rw [List.getD_eq_getElem?_getD, List.getElem?_replicate]; split <;> simp) i
    rw [tally]; simpa using this
  intro l
  induction l with
  | nil => intro c b h i; simpa using h i
  | cons x l ih =>
    intro c b h i
    rw [List.foldl_cons]
    have := ih (bump c x) (b + 1) (fun i => by
      have h1 := h i
      have h2 := h x.toNat
      have : (bump c x).getD i 0 = c.getD i 0 ∨ (bump c x).getD i 0 = c.getD x.toNat 0 + 1 := by
        simp only [bump, List.getD_eq_getElem?_getD, List.getElem?_set]
        split
        · split
          · right; simp
          · left; rename_i h3 h4; subst h3; simp [h4]
        · left; rfl
      omega) i
    simp only [List.length_cons]
    omega
/-- the greatest number of calls less the least -/
def M (xs : List Int) (p : Int) : Int × Bool :=
  if inR p 1 12 && manyIn xs 1 128 0 (p - 1) then (maxTo (tally p.toNat xs) p.toNat - minTo (tally p.toNat xs) p.toNat, true) else (0, false)

set_option maxHeartbeats 1000000 in
theorem impl_any (w : World) (v0 : Value) (x0 : List Int) (i0 : ∀ x ∈ x0, I64 x) (b0 : x0.length ≤ 1048576) (s0 : Sl w 1 v0 x0.length (x0.map vi)) (p : Int) (i1 : I64 p) :
    Calls Try.prog 9 #[v0, .int .i64 p] w fun r w' => r = .returned (.tuple #[.int .i64 (M x0 p).1, .bool (M x0 p).2]) ∧ Below w.heap.size w w' := by
  have s0' := s0
  obtain ⟨A, cap, rfl, hcap, hr⟩ := s0
  cases h1 : inR p 1 12 with
  | false =>
    have H := hd (show M x0 p = (0, false) by rw [M, h1]; rfl)
    go_enter Try.func9, Try.ntmps9
    go_wp2_with (go_at_call 14; refine (arePeople_any _ _).mono ?_; rintro e w' ⟨rfl, rfl⟩)
    go_ret2
    rw [H.out]
    exact ⟨rfl, Below.refl _ _⟩
  | true =>
    obtain ⟨p1, p2⟩ := inR_iff.1 h1
    obtain ⟨m, rfl⟩ := Int.eq_ofNat_of_zero_le (show 0 ≤ p by omega)
    cases h2 : manyIn x0 1 128 0 ((m : Int) - 1) with
    | false =>
      have H := hd (show M x0 m = (0, false) by rw [M, h1, h2]; rfl)
      have HM := hd (fun W h => areMany_any (.slice A x0.length cap) x0 1 128 0 ((m : Int) - 1) W h)
      rw [h2] at HM
      clear h2
      go_enter Try.func9, Try.ntmps9
      go_wp2_with (first | (go_at_call 14; refine (arePeople_any _ _).mono ?_; rintro e w' ⟨rfl, rfl⟩) | (go_at_call 16; refine (HM.out _ s0').mono ?_; rintro e w' ⟨rfl, rfl⟩))
      go_ret2
      rw [H.out]
      exact ⟨rfl, Below.refl _ _⟩
    | true =>
      have H := hd (show M x0 m = (maxTo (tally m x0) m - minTo (tally m x0) m, true) by rw [M, h1, h2]; rfl)
      have hbd : ∀ k, k < x0.length → ∃ y : Nat, x0[k]? = some (y : Int) ∧ y < m := by
        intro k hk
        simp only [manyIn, Bool.and_eq_true, List.all_eq_true, inR_iff] at h2
        have := h2.2.2 x0[k] (List.getElem_mem _)
        exact ⟨x0[k].toNat, by rw [List.getElem?_eq_getElem hk]; congr 1; omega, by omega⟩
      have hlen : x0.length ≤ 128 := by
        simp only [manyIn, Bool.and_eq_true, decide_eq_true_eq] at h2
        omega
      obtain ⟨e0, hi, hz0, hz1, hz2⟩ := info_parts infoI64
      have HM := areMany_any (.slice A x0.length cap) x0 1 128 0 ((m : Int) - 1) w s0'
      rw [h2] at HM
      clear h2 s0' h1
      have hp := inR_iff.2 ⟨p1, p2⟩
      have hb2 : e0.bytes * m ≤ 281474976710656 := by rw [hz2]; omega
      have hmm := size_le (show m ≤ 1048576 by omega)
      generalize hn : x0.length = n at *
      have HM := hd HM
      have Hn := hd hn
      have Hbd := hd hbd
      clear hn hbd i0 i1
      go_enter Try.func9, Try.ntmps9
      go_wp2_with (first
        | (go_at_call 14; refine (arePeople_any _ _).mono ?_; rintro e w' ⟨rfl, rfl⟩)
        | (go_at_call 16; refine HM.out.mono ?_; rintro e w' ⟨rfl, rfl⟩)
        | (at_make; go_must (refine wpList_make_full _ rfl (.tmp 19) (.tmp 19) 30 rfl w.heap.size 2 e0 (.int .i64 0) 1 Try.underlying30 hi hz0 hz1 .i64 .i64 _ _ m rfl rfl rfl rfl hb2 hmm (Nat.le_refl _) ?_); intro w1 hown hgrow))
      clear hp
      have hb1 := below_none hgrow
      clear hgrow
      go_loopw [23] (fun i wr => ∃ k : Nat, k ≤ n ∧ i = .int .i64 k ∧ wr.ownsRow w.heap.size 2 1 (.slice (some ⟨w.heap.size, 0, none⟩) m m) m ((tally m (x0.take k)).map vi) ∧ Below w.heap.size w wr) (fun i _ => n - (intOf i).toNat)
      case atStart =>
        refine ⟨0, by omega, rfl, ?_, hb1⟩
        simpa [toList_madeCells_one, vi, Value.cells, tally] using hown
      case round =>
        obtain ⟨k, hk, rfl, ho, hb⟩ := hrel
        clear hown hb1
        by_cases hlt : k < n
        · obtain ⟨b', off, rfl, hc⟩ := (hr.below hb).int hlt
          obtain ⟨y, hy, hym⟩ := Hbd.out k hlt
          have ey : x0.getD k 0 = y := by rw [List.getD_eq_getElem?_getD, hy]; rfl
          rw [ey] at hc
          have Hsn := hd (tally_snoc m x0 k y hy)
          have hbt := tally_bd m (x0.take k) y
          have htl := tally_len m (x0.take k)
          have hlk : (x0.take k).length ≤ k := by simp; omega
          generalize tally m (x0.take k) = t at *
          obtain ⟨z, hz⟩ : ∃ z, t.getD y 0 = z := ⟨_, rfl⟩
          have hcell := ho.cellAt y (by omega)
          have hfro := ho.frozenAt y
          have e1 : (t.map vi)[y]? = some (.int .i64 z) := by
            rw [List.getElem?_map, ← hz, List.getD_eq_getElem?_getD, List.getElem?_eq_getElem (by omega)]; rfl
          rw [e1] at hcell
          rw [hz] at hbt
          obtain ⟨z1, z2⟩ := hbt
          have z3 : z ≤ 1048576 := by omega
          have Hz := hd hz
          have Hst := hd (ho.stored y (vi (z + 1)))
          have Hb := hd hb
          clear hr hb ey hy hz htl e1 ho
          go_wp2
          go_roundw
          case rel =>
            refine ⟨k + 1, by omega, by go_num, ?_, Hb.out.setCell (Nat.le_refl _) _⟩
            have := Hst.out.1
            rw [Hsn.out, Hz.out, List.map_set]
            exact this
          case measure => simp [intOf]; omega
        · have e : k = n := by omega
          subst e
          have e2 : x0.take k = x0 := List.take_of_length_le (by have := Hn.out; omega)
          rw [e2] at ho
          have htl := tally_len m x0
          have hsl := own_sl ho hmm
          have Hmax := hd (fun W h => slicesMax_any (.slice (some ⟨w.heap.size, 0, none⟩) m m) (tally m x0) W h (by omega))
          have Hmin := hd (fun W h => slicesMin_any (.slice (some ⟨w.heap.size, 0, none⟩) m m) (tally m x0) W h (by omega))
          have hg := maxTo_bd (xs := tally m x0) (lo := 0) (hi := x0.length) (fun i _ => tally_bd m x0 i) (by omega) m (by omega)
          have hl := minTo_bd (xs := tally m x0) (lo := 0) (hi := x0.length) (fun i _ => tally_bd m x0 i) (by omega) m (by omega)
          rw [htl] at Hmax Hmin
          have Hn2 := Hn.out
          rw [Hn2] at hg hl
          clear Hn2 htl e2
          generalize tally m x0 = t at *
          go_wp2_with (first | (go_at_call 17; refine (Hmax.out _ hsl).mono ?_; rintro e w' ⟨rfl, rfl⟩) | (go_at_call 18; refine (Hmin.out _ hsl).mono ?_; rintro e w' ⟨rfl, rfl⟩))
          go_ret2
          rw [H.out]
          exact ⟨rfl, hb⟩
end Go.Proofs.Ytfeehfmiicleaaa.GapI
