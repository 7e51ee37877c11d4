/- The laws' helpers on slices of float32: a copy, equality, marks. -/
import Derived.Test.YtdfjcckanfofbaaSlice
import Derived.Test.YtdfjcckanfofbaaFloatConv
import Derived.Test.YtdfjcckanfofbaaSameF
namespace Go.Proofs.Ytdfjcckanfofbaa
open Go.RowKit Plain
set_option linter.unusedVariables false
set_option linter.unusedSimpArgs false
attribute [local go_sem ↓] Go.wp_at_zero Go.wp_at_succ

theorem run_store_float {P : Program} {w : World} {a : Addr} {m : Mode} (k : FloatKind) (b : Nat) : (store a (.float k b) m).run P w = stored P w a (.float k b) m := run_store P w a _ m rfl
attribute [local go_sem] run_store_float

def vf (x : Nat) : Value := .float .f32 x
theorem Rd.flt {w : World} {A : Option Addr} {n : Nat} {xs : List Nat} (h : Rd w 1 A n (xs.map vf)) {k : Nat} (hk : k < n) : ∃ b off, A = some ⟨b, off, none⟩ ∧ w.cell? ⟨b, off + k, none⟩ = some (.float .f32 (xs.getD k 0)) := by
  obtain ⟨h1, _, h2⟩ := h
  obtain ⟨b, off, hA, hc⟩ := h2 (by omega)
  refine ⟨b, off, hA, hc k _ ?_⟩
  have hl : k < xs.length := by simp at h1; omega
  simp [hl, vf, List.getD_eq_getElem?_getD]

theorem below_more {w0 w : World} {m : Nat} (h : Below w0.heap.size w0 w) : Below w0.heap.size w0 (w.drewN m) := below_drewN h m
theorem own_more {w : World} {base size n m : Nat} {e : TypeId} {v : Value} {xs : List Value} (h : w.ownsRow base e size v n xs) : (w.drewN m).ownsRow base e size v n xs := h
theorem infoFloat32 : (Try.prog.info? 23).map (fun i => (i.zero, i.size, i.bytes)) = some (some (.float .f32 0), 1, 4) := by kernel_rfl
set_option maxHeartbeats 400000 in
/-- 'laws.toFloat32S': a copy in new memory. -/
theorem toFloat32S_any (v : Value) (xs : List Nat) (w : World) (hs : Sl w 1 v xs.length (xs.map vf)) (hx : xs.length ≤ 1048576) :
    Calls Try.prog 5 #[v] w (NewRow 23 1 xs.length (xs.map vf) w) := by
  obtain ⟨A, cap, rfl, hcap, hr⟩ := hs
  obtain ⟨i0, hi, hz0, hz1, hz2⟩ := info_parts infoFloat32
  have hm := size_le hx
  generalize hn : xs.length = n at *
  have Hn := hd hn.symm
  clear hn
  go_enter Try.func5, Try.ntmps5
  have hb2 : i0.bytes * n ≤ 281474976710656 := by rw [hz2]; omega
  go_wp2_with (at_make; go_must (refine wpList_make_full _ rfl (.tmp 6) (.tmp 6) 22 rfl w.heap.size 23 i0 (.float .f32 0) 1 Try.underlying22 hi hz0 hz1 .i64 .i64 _ _ n rfl rfl rfl rfl hb2 hm (Nat.le_refl _) ?_); intro w1 hown hgrow)
  have hb1 := below_none hgrow
  clear hgrow
  have hown1 := hown
  go_loopw [4] (fun i wr => ∃ k : Nat, k ≤ n ∧ i = .int .i64 k ∧ wr.ownsRow w.heap.size 23 1 (.slice (some ⟨w.heap.size, 0, none⟩) n n) n ((xs.take k).map vf ++ List.replicate (n - k) (vf 0)) ∧ Below w.heap.size w wr) (fun i _ => n - (intOf i).toNat)
  case atStart =>
    refine ⟨0, by omega, rfl, ?_, hb1⟩
    simpa [toList_madeCells_one, vf, Value.cells] using hown1
  case round =>
    obtain ⟨k, hk, rfl, ho, hb⟩ := hrel
    clear hown hown1 hb1
    by_cases hlt : k < n
    · obtain ⟨b, off, rfl, hc⟩ := hr.flt hlt
      have hc' := below_at hb hc
      have hcell := ho.cellAt k (by omega)
      have hfro := ho.frozenAt k
      have hz : ((xs.take k).map vf ++ List.replicate (n - k) (vf 0))[k]? = some (.float .f32 0) := by
        have := Hn.out
        rw [List.getElem?_append_right (by simp; omega), List.getElem?_replicate, if_pos (by simp; omega)]
        rfl
      rw [hz] at hcell
      clear hz
      have Hs := hd (ho.stored k (vf (xs.getD k 0)))
      have Hb := hd hb
      clear hc ho hb
      go_wp2
      go_roundw
      case rel =>
        refine ⟨k + 1, by omega, by go_num, ?_, ?_⟩
        · have := Hs.out.1
          have hl : k < xs.length := by have := Hn.out; omega
          have e : ((xs.take k).map vf ++ List.replicate (n - k) (vf 0)).set k (vf (xs.getD k 0)) = (xs.take (k + 1)).map vf ++ List.replicate (n - (k + 1)) (vf 0) := by
            have := fill_step (xs.map vf) (vf 0) k (by simpa using hl)
            simp [← Hn.out] at this
            simpa [hl, List.getD_eq_getElem?_getD] using this
          rw [e] at this
          simpa [vf, List.getD_eq_getElem?_getD] using this
        · exact Hb.out.setCell (Nat.le_refl _) _
      case measure => simp [intOf]; omega
    · have hkn : k = n := by omega
      subst hkn
      go_wp2
      go_ret
      refine ⟨_, rfl, ?_, hb⟩
      have := ho
      rw [Hn.out] at this ⊢
      simpa using this

theorem keep_two {B1 B2 o1 o2 : Nat} {v u : Value} {W w w' : World} (h : Below w.heap.size w w') (hH : w.cell? ⟨B1, o1, none⟩ = some v ∧ w.cell? ⟨B2, o2, none⟩ = some u ∧ Below W.heap.size W w) :
    w'.cell? ⟨B1, o1, none⟩ = some v ∧ w'.cell? ⟨B2, o2, none⟩ = some u ∧ Below W.heap.size W w' := ⟨below_at h hH.1, below_at h hH.2.1, below_tr h hH.2.2⟩
theorem keep_drew {B1 B2 o1 o2 : Nat} {v u : Value} {W w : World} (m : Nat) (hH : w.cell? ⟨B1, o1, none⟩ = some v ∧ w.cell? ⟨B2, o2, none⟩ = some u ∧ Below W.heap.size W w) :
    (w.drewN m).cell? ⟨B1, o1, none⟩ = some v ∧ (w.drewN m).cell? ⟨B2, o2, none⟩ = some u ∧ Below W.heap.size W (w.drewN m) := ⟨hH.1, hH.2.1, below_drewN hH.2.2 m⟩
set_option maxHeartbeats 4000000 in
set_option maxRecDepth 100000 in
/-- 'laws.eqFloat32S' of lists that are the same up to which NaN. -/
theorem eqFloat32S_t (v u : Value) (xs ys : List Nat) (w : World) (hs : Sl w 1 v xs.length (xs.map vf)) (ht : Sl w 1 u ys.length (ys.map vf)) (hxy : xs.map (nrm .f32) = ys.map (nrm .f32)) :
    Calls Try.prog 7 #[v, u] w fun r w' => r = .returned (.bool true) ∧ Below w.heap.size w w' := by
  obtain ⟨A, cap, rfl, hcap, hr⟩ := hs
  obtain ⟨A', cap', rfl, hcap', hr'⟩ := ht
  have hm := hr.2.1
  unfold maxLen at hm
  have hlen : ys.length = xs.length := by have := congrArg List.length hxy; simpa using this.symm
  have HX := hd (fun k (hk : k < xs.length) => show nrm .f32 (xs.getD k 0) = nrm .f32 (ys.getD k 0) from by
    have := congrArg (fun l => l[k]?) hxy
    simp only [List.getElem?_map, List.getElem?_eq_getElem hk, List.getElem?_eq_getElem (show k < ys.length by omega), Option.map_some, Option.some.injEq] at this
    simpa [List.getD_eq_getElem?_getD, hk, hlen] using this)
  clear hxy
  generalize hn : xs.length = n at *
  generalize hn' : ys.length = n' at *
  obtain rfl : n' = n := by omega
  clear hn hn' hlen
  go_enter Try.func7, Try.ntmps7
  go_wp2
  go_loopw [5] (fun i wr => ∃ k : Nat, k ≤ n' ∧ i = .int .i64 k ∧ Below w.heap.size w wr) (fun i _ => n' - (intOf i).toNat)
  case atStart => exact ⟨0, by omega, rfl, Below.refl _ _⟩
  case round =>
    obtain ⟨k, hk, rfl, hB⟩ := hrel
    by_cases hlt : k < n'
    · obtain ⟨b, off, rfl, hc⟩ := (hr.below hB).flt hlt
      obtain ⟨b', off', rfl, hc'⟩ := (hr'.below hB).flt hlt
      have HE := hd (HX.out k hlt)
      generalize xs.getD k 0 = x at *
      generalize ys.getD k 0 = y at *
      have hb0 : Below wr.heap.size wr wr.drew := (Below.refl _ _).drew
      have i1 : (0 : Int) ≤ (k : Int) := by omega
      have i2 : (k : Int) < (n' : Int) := by omega
      have HB := hd hB
      clear hr hr' hB HX
      cases hx : nrm .f32 x with
      | none =>
        have cx := conv_nan (P := Try.prog) 23 29 x Try.underlying23 Try.underlying29 hx
        have cy := conv_nan (P := Try.prog) 23 29 y Try.underlying23 Try.underlying29 (HE.out.symm.trans hx)
        clear hx
        go_wp2
        refine wp_region_held_drew (S := fun w' => w'.cell? ⟨b, off + k, none⟩ = some (.float .f32 x) ∧ w'.cell? ⟨b', off' + k, none⟩ = some (.float .f32 y) ∧ Below wr.heap.size wr w') (by kernel_rfl) ⟨hc, hc', hb0⟩ (fun hHeld => ?_)
        refine wpAnyH_take (i := 0) (v := ?_) rfl (by kernel_rfl) (by kernel_rfl) (by kernel_rfl) (fun _ _ _ h => h) (Or.inl ⟨by rfl, ?_⟩) (by assumption) ?_
        rotate_left
        · (intro w hSw; (try dsimp only at hSw); go_simp; try (with_reducible rfl))
        try simp only [Act.put, List.setIfInBounds_toArray, List.set_cons_zero, List.set_cons_succ]
        refine wpAnyH_take (i := 1) (v := ?_) rfl (by kernel_rfl) (by kernel_rfl) (by kernel_rfl) (fun _ _ _ h => h) (Or.inl ⟨by rfl, ?_⟩) (by assumption) ?_
        rotate_left
        · (intro w hSw; (try dsimp only at hSw); go_simp; try (with_reducible rfl))
        try simp only [Act.put, List.setIfInBounds_toArray, List.set_cons_zero, List.set_cons_succ]
        refine wpAnyH_take (i := 2) (v := ?_) rfl (by kernel_rfl) (by kernel_rfl) (by kernel_rfl) (fun _ _ _ h => h) (Or.inl ⟨by rfl, ?_⟩) (by assumption) ?_
        rotate_left
        · (intro w hSw; (try dsimp only at hSw); go_simp; try (with_reducible rfl))
        try simp only [Act.put, List.setIfInBounds_toArray, List.set_cons_zero, List.set_cons_succ]
        refine wpAnyH_take (i := 3) (v := ?_) rfl (by kernel_rfl) (by kernel_rfl) (by kernel_rfl) (fun _ _ _ h => h) (Or.inl ⟨by rfl, ?_⟩) (by assumption) ?_
        rotate_left
        · (intro w hSw; (try dsimp only at hSw); go_simp; try (with_reducible rfl))
        try simp only [Act.put, List.setIfInBounds_toArray, List.set_cons_zero, List.set_cons_succ]
        refine wpAnyH_take (i := 5) (v := ?_) rfl (by kernel_rfl) (by kernel_rfl) (by kernel_rfl) (fun _ _ _ h => h) (Or.inl ⟨by rfl, ?_⟩) (by assumption) ?_
        rotate_left
        · (intro w hSw; (try dsimp only at hSw); go_simp; try (with_reducible rfl))
        try simp only [Act.put, List.setIfInBounds_toArray, List.set_cons_zero, List.set_cons_succ]
        refine wpAnyH_take (i := 6) (v := ?_) rfl (by kernel_rfl) (by kernel_rfl) (by kernel_rfl) (fun _ _ _ h => h) (Or.inl ⟨by rfl, ?_⟩) (by assumption) ?_
        rotate_left
        · (intro w hSw; (try dsimp only at hSw); go_simp; try (with_reducible rfl))
        try simp only [Act.put, List.setIfInBounds_toArray, List.set_cons_zero, List.set_cons_succ]
        refine wpAnyH_take (i := 7) (v := ?_) rfl (by kernel_rfl) (by kernel_rfl) (by kernel_rfl) (fun _ _ _ h => h) (Or.inl ⟨by rfl, ?_⟩) (by assumption) ?_
        rotate_left
        · (intro w hSw; (try dsimp only at hSw); go_simp; try (with_reducible rfl))
        try simp only [Act.put, List.setIfInBounds_toArray, List.set_cons_zero, List.set_cons_succ]
        refine wpAnyH_take (i := 8) (v := ?_) rfl (by kernel_rfl) (by kernel_rfl) (by kernel_rfl) (fun _ _ _ h => h) (Or.inl ⟨by rfl, ?_⟩) (by assumption) ?_
        rotate_left
        · (intro w hSw; (try dsimp only at hSw); go_simp; try (with_reducible rfl))
        try simp only [Act.put, List.setIfInBounds_toArray, List.set_cons_zero, List.set_cons_succ]
        refine wpAnyH_ready (rs := [4, 9]) (by kernel_rfl) (by simp) ?_
        refine AllReadyH.cons rfl (fun K hK => ?_) (AllReadyH.cons rfl (fun K hK => ?_) AllReadyH.nil)
        · go_simp
          refine hK.out _ _ ?_ (fun hHeld => ?_)
          · (refine ⟨?_, ?_, below_drewN (Below.refl _ _) _⟩ <;> go_keep)
          clear hK K
          try simp only [Act.put, List.setIfInBounds_toArray, List.set_cons_zero, List.set_cons_succ]
          refine wpAnyH_ready (rs := [9]) (by kernel_rfl) (by simp) ?_
          refine AllReadyH.cons rfl (fun K hK => ?_) AllReadyH.nil
          go_simp
          refine hK.out _ _ ?_ (fun hHeld => ?_)
          · (refine ⟨?_, ?_, below_drewN (Below.refl _ _) _⟩ <;> go_keep)
          clear hK K
          try simp only [Act.put, List.setIfInBounds_toArray, List.set_cons_zero, List.set_cons_succ]
          refine wpAnyH_ready (rs := [10]) (by kernel_rfl) (by simp) ?_
          refine AllReadyH.cons rfl (fun K hK => ?_) AllReadyH.nil
          go_simp
          refine (sameFloat_any _ _ none _ (nanOf_none _ _) (nanOf_none _ _)).mono ?_; rintro e w' ⟨rfl, m3, rfl⟩
          go_simp
          refine hK.out _ _ ?_ (fun hHeld => ?_)
          · (refine ⟨?_, ?_, below_drewN (Below.refl _ _) _⟩ <;> go_keep)
          clear hK K
          try simp only [Act.put, List.setIfInBounds_toArray, List.set_cons_zero, List.set_cons_succ]
          refine wpAnyH_take (i := 11) (v := ?_) rfl (by kernel_rfl) (by kernel_rfl) (by kernel_rfl) (fun _ _ _ h => h) (Or.inl ⟨by rfl, ?_⟩) (by assumption) ?_
          rotate_left
          · (intro w hSw; (try dsimp only at hSw); go_simp; try (with_reducible rfl))
          try simp only [Act.put, List.setIfInBounds_toArray, List.set_cons_zero, List.set_cons_succ]
          refine wpAnyH_done (by kernel_rfl) ?_ _
          go_wp2
          go_roundw
          case rel => exact ⟨k + 1, by omega, by go_num, below_drewN HB.out _⟩
          case measure => simp [intOf]; omega
        · go_simp
          refine hK.out _ _ ?_ (fun hHeld => ?_)
          · (refine ⟨?_, ?_, below_drewN (Below.refl _ _) _⟩ <;> go_keep)
          clear hK K
          try simp only [Act.put, List.setIfInBounds_toArray, List.set_cons_zero, List.set_cons_succ]
          refine wpAnyH_ready (rs := [4]) (by kernel_rfl) (by simp) ?_
          refine AllReadyH.cons rfl (fun K hK => ?_) AllReadyH.nil
          go_simp
          refine hK.out _ _ ?_ (fun hHeld => ?_)
          · (refine ⟨?_, ?_, below_drewN (Below.refl _ _) _⟩ <;> go_keep)
          clear hK K
          try simp only [Act.put, List.setIfInBounds_toArray, List.set_cons_zero, List.set_cons_succ]
          refine wpAnyH_ready (rs := [10]) (by kernel_rfl) (by simp) ?_
          refine AllReadyH.cons rfl (fun K hK => ?_) AllReadyH.nil
          go_simp
          refine (sameFloat_any _ _ none _ (nanOf_none _ _) (nanOf_none _ _)).mono ?_; rintro e w' ⟨rfl, m3, rfl⟩
          go_simp
          refine hK.out _ _ ?_ (fun hHeld => ?_)
          · (refine ⟨?_, ?_, below_drewN (Below.refl _ _) _⟩ <;> go_keep)
          clear hK K
          try simp only [Act.put, List.setIfInBounds_toArray, List.set_cons_zero, List.set_cons_succ]
          refine wpAnyH_take (i := 11) (v := ?_) rfl (by kernel_rfl) (by kernel_rfl) (by kernel_rfl) (fun _ _ _ h => h) (Or.inl ⟨by rfl, ?_⟩) (by assumption) ?_
          rotate_left
          · (intro w hSw; (try dsimp only at hSw); go_simp; try (with_reducible rfl))
          try simp only [Act.put, List.setIfInBounds_toArray, List.set_cons_zero, List.set_cons_succ]
          refine wpAnyH_done (by kernel_rfl) ?_ _
          go_wp2
          go_roundw
          case rel => exact ⟨k + 1, by omega, by go_num, below_drewN HB.out _⟩
          case measure => simp [intOf]; omega
      | some q =>
        have hy := HE.out.symm.trans hx
        obtain ⟨rfl, _⟩ := nrm_some hx
        obtain ⟨rfl, _⟩ := nrm_some hy
        obtain ⟨r, hr, cx⟩ := conv_num (P := Try.prog) w 23 29 _ Try.underlying23 Try.underlying29 hx
        have HR := hd hr
        clear hx hy hr
        go_wp2
        go_region_held3 (fun w' => w'.cell? ⟨b, off + k, none⟩ = some (.float .f32 y) ∧ w'.cell? ⟨b', off' + k, none⟩ = some (.float .f32 y) ∧ Below wr.heap.size wr w')
          (first | (refine ⟨?_, ?_, below_drewN (Below.refl _ _) _⟩ <;> go_keep) | go_keep)
          (first | (go_at_call 8; refine (sameFloat_any _ _ _ _ HR.out HR.out).mono ?_; rintro e w' ⟨rfl, m3, rfl⟩))
        all_goals
          go_wp2
          go_roundw
          case rel => exact ⟨k + 1, by omega, by go_num, below_drewN HB.out _⟩
          case measure => simp [intOf]; omega
    · have hkn : k = n' := by omega
      subst hkn
      go_wp2
      go_ret
      exact ⟨rfl, hB⟩
/-- the marks k, k + 1, .. as floats -/
def marksF (n : Nat) (k : Int) : List Nat := (List.range n).map fun (i : Nat) => floatOfInt .f32 (k + (i : Int))
theorem marksF_get (n : Nat) (k : Int) (i : Nat) (h : i < n) : (marksF n k)[i]? = some (floatOfInt .f32 (k + i)) := by simp [marksF, h]
theorem marksF_len (n : Nat) (k : Int) : (marksF n k).length = n := by simp [marksF]
theorem nan_ofInt (n : Int) : (FloatKind.f32.format.read (floatOfInt .f32 n)).isNaN = false := (nrm_some (nrm_ofInt .f32 n)).2
set_option maxHeartbeats 400000 in
/-- 'laws.markFloat32S': the slice holds m, m + 1, ..; nothing else has turned. -/
theorem markFloat32S_any (v : Value) (xs : List Value) (n base : Nat) (m : Int) (w : World) (ho : w.ownsRow base 23 1 v n xs) (hn : n ≤ 1048576) (hm0 : 0 ≤ m) (hm1 : m ≤ 1099511627776) :
    Calls Try.prog 9 #[v, .int .i64 m] w (MarkedRow 23 1 v n ((marksF n m).map vf) base (m + n) w) := by
  obtain ⟨A, cap, rfl, hcap, hr, hA⟩ := own_rd ho (size_le hn)
  have hl : xs.length = n := by have := ho.1; simpa using this
  have Hl := hd hl
  clear hl
  go_enter Try.func9, Try.ntmps9
  go_wp2
  go_loopw [1, 5] (fun q i wr => ∃ k : Nat, k ≤ n ∧ i = .int .i64 k ∧ q = .int .i64 (m + k) ∧ wr.ownsRow base 23 1 (.slice A n cap) n (((List.range k).map fun (i : Nat) => vf (floatOfInt .f32 (m + (i : Int)))) ++ xs.drop k) ∧ w.grownBy wr (Value.ownBlock (.slice A n cap))) (fun _ i _ => n - (intOf i).toNat)
  case atStart => exact ⟨0, by omega, rfl, by simp, by simpa using ho, World.grownBy.refl _ _⟩
  case round =>
    obtain ⟨k, hk, rfl, rfl, ho1, hg⟩ := hrel
    clear ho hr
    by_cases hlt : k < n
    · rcases hA with ⟨_, hc0⟩ | ⟨g, rfl, hg1, hg2⟩
      · omega
      have hcell := ho1.cellAt k (by omega)
      have hfro := ho1.frozenAt k
      have hz : ∃ z, (((List.range k).map fun (i : Nat) => vf (floatOfInt .f32 (m + (i : Int)))) ++ xs.drop k)[k]? = some z := by
        have := Hl.out
        refine ⟨_, List.getElem?_eq_getElem ?_⟩
        simp; omega
      obtain ⟨z, hz⟩ := hz
      rw [hz] at hcell
      clear hz
      have Hs := hd (ho1.stored k (vf (floatOfInt .f32 (m + (k : Int)))))
      have Hg := hd hg
      clear ho1 hg
      go_wp2
      go_roundw
      case rel =>
        have e := Hs.out.1
        have hst := mark_step (fun (i : Nat) => vf (floatOfInt .f32 (m + (i : Int)))) xs n k Hl.out hlt
        rw [hst] at e
        exact ⟨k + 1, by omega, by go_num, by go_num, e, Hg.out.trans Hs.out.2⟩
      case measure => simp [intOf]; omega
    · have hkn : k = n := by omega
      subst hkn
      go_wp2
      go_ret
      refine ⟨rfl, ?_, hg⟩
      have e := ho1
      rw [List.drop_eq_nil_of_le (by have := Hl.out; omega), List.append_nil] at e
      simpa [marksF, Function.comp_def] using e

set_option maxHeartbeats 400000 in
/-- 'laws.heldFloat32S' of a slice that holds the marks. -/
theorem heldFloat32S_any (v : Value) (n : Nat) (m : Int) (w : World) (hs : Sl w 1 v n ((marksF n m).map vf)) (hn : n ≤ 1048576) (hm0 : 0 ≤ m) (hm1 : m ≤ 1099511627776) :
    Calls Try.prog 10 #[v, .int .i64 m] w (Draws (.int .i64 (m + n)) w) := by
  obtain ⟨A, cap, rfl, hcap, hr⟩ := hs
  go_enter Try.func10, Try.ntmps10
  go_wp2
  go_loopw [1, 5] (fun q i wr => ∃ k : Nat, k ≤ n ∧ i = .int .i64 k ∧ q = .int .i64 (m + k) ∧ ∃ j, wr = w.drewN j) (fun _ i _ => n - (intOf i).toNat)
  case atStart => exact ⟨0, by omega, rfl, by simp, 0, rfl⟩
  case round =>
    obtain ⟨k, hk, rfl, rfl, j, rfl⟩ := hrel
    by_cases hlt : k < n
    · obtain ⟨b, off, rfl, hc⟩ := hr.flt hlt
      have e : (marksF n m).getD k 0 = floatOfInt .f32 (m + (k : Int)) := by rw [List.getD_eq_getElem?_getD, marksF_get n m k hlt]; rfl
      have hor := order_refl (k := .f32) (a := floatOfInt .f32 (m + (k : Int))) (nan_ofInt _)
      rw [e] at hc
      clear e hr
      have i1 : (0 : Int) ≤ (k : Int) := by omega
      have i2 : (k : Int) < (n : Int) := by omega
      go_wp2
      go_roundw
      case rel => exact ⟨k + 1, by omega, by go_num, by go_num, _, rfl⟩
      case measure => simp [intOf]; omega
    · have hkn : k = n := by omega
      subst hkn
      go_wp2
      go_ret
      exact ⟨rfl, _, rfl⟩
theorem heldFloat32S_b (v : Value) (n : Nat) (m : Int) (w : World) (hs : Sl w 1 v n ((marksF n m).map vf)) (hn : n ≤ 1048576) (hm0 : 0 ≤ m) (hm1 : m ≤ 1099511627776) :
    Calls Try.prog 10 #[v, .int .i64 m] w fun r w' => r = .returned (.int .i64 (m + n)) ∧ Below w.heap.size w w' :=
  (heldFloat32S_any v n m w hs hn hm0 hm1).mono fun _ _ ⟨h, m, e⟩ => ⟨h, e ▸ below_drewN (Below.refl _ _) m⟩
end Go.Proofs.Ytdfjcckanfofbaa
