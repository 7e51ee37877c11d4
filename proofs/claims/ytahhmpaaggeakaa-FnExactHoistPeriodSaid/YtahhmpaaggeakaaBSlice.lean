/- The laws' helpers on slices of bool: a copy, equality, marks. -/
import Derived.Test.YtahhmpaaggeakaaSlice
import Derived.Test.YtahhmpaaggeakaaFloats
namespace Go.Proofs.Ytahhmpaaggeakaa
open Go.RowKit Plain
set_option linter.unusedVariables false
set_option linter.unusedSimpArgs false
attribute [local go_sem ↓] Go.wp_at_zero Go.wp_at_succ

def vb (x : Bool) : Value := .bool x
theorem Rd.bool {w : World} {A : Option Addr} {n : Nat} {xs : List Bool} (h : Rd w 1 A n (xs.map vb)) {k : Nat} (hk : k < n) : ∃ b off, A = some ⟨b, off, none⟩ ∧ w.cell? ⟨b, off + k, none⟩ = some (.bool (xs.getD k false)) := by
  obtain ⟨h1, _, h2⟩ := h
  obtain ⟨b, off, hA, hc⟩ := h2 (by omega)
  refine ⟨b, off, hA, hc k _ ?_⟩
  have hl : k < xs.length := by simp at h1; omega
  simp [hl, vb, List.getD_eq_getElem?_getD]

theorem take_succ_eqB {xs ys : List Bool} {k : Nat} (h : xs.take k = ys.take k) (hk : k < xs.length) (hk' : k < ys.length) (he : xs[k]?.getD false = ys[k]?.getD false) : xs.take (k + 1) = ys.take (k + 1) := by
  rw [List.take_add_one, List.take_add_one, h]
  simp only [hk, hk', List.getElem?_eq_getElem, Option.getD_some] at he ⊢
  rw [he]
theorem ne_of_getDB {xs ys : List Bool} {k : Nat} (he : ¬ xs[k]?.getD false = ys[k]?.getD false) : ¬ xs = ys := by
  rintro rfl
  exact he rfl
theorem infoBool : (Try.prog.info? 4).map (fun i => (i.zero, i.size, i.bytes)) = some (some (.bool false), 1, 1) := by kernel_rfl
set_option maxHeartbeats 400000 in
/-- 'laws.toBoolS': a copy in new memory. -/
theorem toBoolS_any (v : Value) (xs : List Bool) (w : World) (hs : Sl w 1 v xs.length (xs.map vb)) (hx : xs.length ≤ 1048576) :
    Calls Try.prog 55 #[v] w (NewRow 4 1 xs.length (xs.map vb) w) := by
  obtain ⟨A, cap, rfl, hcap, hr⟩ := hs
  obtain ⟨i0, hi, hz0, hz1, hz2⟩ := info_parts infoBool
  have hm := size_le hx
  generalize hn : xs.length = n at *
  have Hn := hd hn.symm
  clear hn
  go_enter Try.func55, Try.ntmps55
  have hb2 : i0.bytes * n ≤ 281474976710656 := by rw [hz2]; omega
  go_wp2_with (at_make; go_must (refine wpList_make_full _ rfl (.tmp 6) (.tmp 6) 50 rfl w.heap.size 4 i0 (.bool false) 1 Try.underlying50 hi hz0 hz1 .i64 .i64 _ _ n rfl rfl rfl rfl hb2 hm (Nat.le_refl _) ?_); intro w1 hown hgrow)
  have hb1 := below_none hgrow
  clear hgrow
  have hown1 := hown
  go_loopw [4] (fun i wr => ∃ k : Nat, k ≤ n ∧ i = .int .i64 k ∧ wr.ownsRow w.heap.size 4 1 (.slice (some ⟨w.heap.size, 0, none⟩) n n) n ((xs.take k).map vb ++ List.replicate (n - k) (vb false)) ∧ Below w.heap.size w wr) (fun i _ => n - (intOf i).toNat)
  case atStart =>
    refine ⟨0, by omega, rfl, ?_, hb1⟩
    simpa [toList_madeCells_one, vb, Value.cells] using hown1
  case round =>
    obtain ⟨k, hk, rfl, ho, hb⟩ := hrel
    clear hown hown1 hb1
    by_cases hlt : k < n
    · obtain ⟨b, off, rfl, hc⟩ := hr.bool hlt
      have hc' := below_at hb hc
      have hcell := ho.cellAt k (by omega)
      have hfro := ho.frozenAt k
      have hz : ((xs.take k).map vb ++ List.replicate (n - k) (vb false))[k]? = some (.bool false) := by
        have := Hn.out
        rw [List.getElem?_append_right (by simp; omega), List.getElem?_replicate, if_pos (by simp; omega)]
        rfl
      rw [hz] at hcell
      clear hz
      have Hs := hd (ho.stored k (vb (xs.getD k false)))
      have Hb := hd hb
      clear hc ho hb
      go_wp2
      go_roundw
      case rel =>
        refine ⟨k + 1, by omega, by go_num, ?_, ?_⟩
        · have := Hs.out.1
          have hl : k < xs.length := by have := Hn.out; omega
          have e : ((xs.take k).map vb ++ List.replicate (n - k) (vb false)).set k (vb (xs.getD k false)) = (xs.take (k + 1)).map vb ++ List.replicate (n - (k + 1)) (vb false) := by
            have := fill_step (xs.map vb) (vb false) k (by simpa using hl)
            simp [← Hn.out] at this
            simpa [hl, List.getD_eq_getElem?_getD] using this
          rw [e] at this
          simpa [vb, List.getD_eq_getElem?_getD] using this
        · exact Hb.out.setCell (Nat.le_refl _) _
      case measure => simp [intOf]; omega
    · have hkn : k = n := by omega
      subst hkn
      go_wp2
      go_ret
      refine ⟨_, rfl, ?_, hb⟩
      have := ho
      rw [Hn.out] at this ⊢
      simpa using this

set_option maxHeartbeats 400000 in
/-- 'laws.eqBoolS': the lists are equal. -/
theorem eqBoolS_any (v u : Value) (xs ys : List Bool) (w : World) (hs : Sl w 1 v xs.length (xs.map vb)) (ht : Sl w 1 u ys.length (ys.map vb)) :
    Calls Try.prog 40 #[v, u] w (Draws (.bool (xs == ys)) w) := by
  obtain ⟨A, cap, rfl, hcap, hr⟩ := hs
  obtain ⟨A', cap', rfl, hcap', hr'⟩ := ht
  have hm := hr.2.1
  have hm' := hr'.2.1
  unfold maxLen at hm hm'
  generalize hn : xs.length = n at *
  generalize hn' : ys.length = n' at *
  have Hn := hd hn.symm
  have Hn' := hd hn'.symm
  clear hn hn'
  by_cases hnn : n = n'
  · subst hnn
    go_enter Try.func40, Try.ntmps40
    go_wp2
    go_loopw [5] (fun i wr => ∃ k : Nat, k ≤ n ∧ i = .int .i64 k ∧ Hid (xs.take k = ys.take k) ∧ ∃ m, wr = w.drewN m) (fun i _ => n - (intOf i).toNat)
    case atStart => exact ⟨0, by omega, rfl, by simp [Hid], 0, rfl⟩
    case round =>
      obtain ⟨k, hk, rfl, he, m, rfl⟩ := hrel
      by_cases hlt : k < n
      · obtain ⟨b, off, rfl, hc⟩ := hr.bool hlt
        obtain ⟨b', off', rfl, hc'⟩ := hr'.bool hlt
        have i1 : (0 : Int) ≤ (k : Int) := by omega
        have i2 : (k : Int) < (n : Int) := by omega
        go_wp2
        go_quiet (fail)
        go_wp2
        · have h : (xs[k]?.getD false != ys[k]?.getD false) = true := by assumption
          rw [bne_iff_ne] at h
          go_ret
          exact ⟨ret_bool (by simpa using ne_of_getDB h), drew2 _ _ _⟩
        · have h : (xs[k]?.getD false != ys[k]?.getD false) = false := by assumption
          rw [bne_eq_false_iff_eq] at h
          go_roundw
          case rel => exact ⟨k + 1, by omega, by go_num, hd (take_succ_eqB he.out (by have := Hn.out; omega) (by have := Hn'.out; omega) h), _, rfl⟩
          case measure => simp [intOf]; omega
      · have hkn : k = n := by omega
        subst hkn
        go_wp2
        go_ret
        exact ⟨ret_bool (by simpa using (eq_of_take he.out Hn.out.symm Hn'.out.symm)), _, rfl⟩
  · go_enter Try.func40, Try.ntmps40
    have hne : ¬ ((n : Int) = (n' : Int)) := by omega
    go_wp2
    go_ret
    refine ⟨ret_bool ?_, 0, rfl⟩
    symm
    rw [beq_eq_false_iff_ne]
    rintro rfl
    exact hnn (Hn.out.trans Hn'.out.symm)

theorem eqBoolS_b (v u : Value) (xs ys : List Bool) (w : World) (hs : Sl w 1 v xs.length (xs.map vb)) (ht : Sl w 1 u ys.length (ys.map vb)) :
    Calls Try.prog 40 #[v, u] w fun r w' => r = .returned (.bool (xs == ys)) ∧ Below w.heap.size w w' :=
  (eqBoolS_any v u xs ys w hs ht).mono fun _ _ ⟨h, m, e⟩ => ⟨h, e ▸ below_drewN (Below.refl _ _) m⟩

/-- the mark of place j -/
def bmk (j : Int) : Bool := j % 3 == 0
def marksB (n : Nat) (k : Int) : List Bool := (List.range n).map fun (i : Nat) => bmk (k + (i : Int))
theorem marksB_get (n : Nat) (k : Int) (i : Nat) (h : i < n) : (marksB n k)[i]? = some (bmk (k + i)) := by simp [marksB, h]
set_option maxHeartbeats 400000 in
/-- 'laws.markBoolS': the slice holds its marks; nothing else has turned. -/
theorem markBoolS_any (v : Value) (xs : List Value) (n base : Nat) (m : Int) (w : World) (ho : w.ownsRow base 4 1 v n xs) (hn : n ≤ 1048576) (hm0 : 0 ≤ m) (hm1 : m ≤ 1099511627776) :
    Calls Try.prog 43 #[v, .int .i64 m] w (MarkedRow 4 1 v n ((marksB n m).map vb) base (m + n) w) := by
  obtain ⟨A, cap, rfl, hcap, hr, hA⟩ := own_rd ho (size_le hn)
  have hl : xs.length = n := by have := ho.1; simpa using this
  have Hl := hd hl
  clear hl
  go_enter Try.func43, Try.ntmps43
  go_wp2
  go_loopw [1, 5] (fun q i wr => ∃ k : Nat, k ≤ n ∧ i = .int .i64 k ∧ q = .int .i64 (m + k) ∧ wr.ownsRow base 4 1 (.slice A n cap) n (((List.range k).map fun (i : Nat) => vb (bmk (m + (i : Int)))) ++ xs.drop k) ∧ w.grownBy wr (Value.ownBlock (.slice A n cap))) (fun _ i _ => n - (intOf i).toNat)
  case atStart => exact ⟨0, by omega, rfl, by simp, by simpa using ho, World.grownBy.refl _ _⟩
  case round =>
    obtain ⟨k, hk, rfl, rfl, ho1, hg⟩ := hrel
    clear ho hr
    by_cases hlt : k < n
    · rcases hA with ⟨_, hc0⟩ | ⟨g, rfl, hg1, hg2⟩
      · omega
      have hcell := ho1.cellAt k (by omega)
      have hfro := ho1.frozenAt k
      have hz : ∃ z, (((List.range k).map fun (i : Nat) => vb (bmk (m + (i : Int)))) ++ xs.drop k)[k]? = some z := by
        have := Hl.out
        refine ⟨_, List.getElem?_eq_getElem ?_⟩
        simp; omega
      obtain ⟨z, hz⟩ := hz
      rw [hz] at hcell
      clear hz
      have Hs := hd (ho1.stored k (vb (bmk (m + (k : Int)))))
      have Hg := hd hg
      clear ho1 hg
      go_wp2
      go_roundw
      case rel =>
        have e := Hs.out.1
        have hst := mark_step (fun (i : Nat) => vb (bmk (m + (i : Int)))) xs n k Hl.out hlt
        rw [hst] at e
        exact ⟨k + 1, by omega, by go_num, by go_num, e, Hg.out.trans Hs.out.2⟩
      case measure => simp [intOf]; omega
    · have hkn : k = n := by omega
      subst hkn
      go_wp2
      go_ret
      refine ⟨rfl, ?_, hg⟩
      have e := ho1
      rw [List.drop_eq_nil_of_le (by have := Hl.out; omega), List.append_nil] at e
      simpa [marksB, Function.comp_def] using e

set_option maxHeartbeats 400000 in
/-- 'laws.heldBoolS' of a slice that holds the marks. -/
theorem heldBoolS_any (v : Value) (n : Nat) (m : Int) (w : World) (hs : Sl w 1 v n ((marksB n m).map vb)) (hn : n ≤ 1048576) (hm0 : 0 ≤ m) (hm1 : m ≤ 1099511627776) :
    Calls Try.prog 44 #[v, .int .i64 m] w (Draws (.int .i64 (m + n)) w) := by
  obtain ⟨A, cap, rfl, hcap, hr⟩ := hs
  go_enter Try.func44, Try.ntmps44
  go_wp2
  go_loopw [1, 5] (fun q i wr => ∃ k : Nat, k ≤ n ∧ i = .int .i64 k ∧ q = .int .i64 (m + k) ∧ ∃ j, wr = w.drewN j) (fun _ i _ => n - (intOf i).toNat)
  case atStart => exact ⟨0, by omega, rfl, by simp, 0, rfl⟩
  case round =>
    obtain ⟨k, hk, rfl, rfl, j, rfl⟩ := hrel
    by_cases hlt : k < n
    · obtain ⟨b, off, rfl, hc⟩ := hr.bool hlt
      have e : (marksB n m).getD k false = bmk (m + (k : Int)) := by rw [List.getD_eq_getElem?_getD, marksB_get n m k hlt]; rfl
      rw [e, bmk] at hc
      clear e hr
      have i1 : (0 : Int) ≤ (k : Int) := by omega
      have i2 : (k : Int) < (n : Int) := by omega
      go_wp2
      go_roundw
      case rel => exact ⟨k + 1, by omega, by go_num, by go_num, _, rfl⟩
      case measure => simp [intOf]; omega
    · have hkn : k = n := by omega
      subst hkn
      go_wp2
      go_ret
      exact ⟨rfl, _, rfl⟩
theorem heldBoolS_b (v : Value) (n : Nat) (m : Int) (w : World) (hs : Sl w 1 v n ((marksB n m).map vb)) (hn : n ≤ 1048576) (hm0 : 0 ≤ m) (hm1 : m ≤ 1099511627776) :
    Calls Try.prog 44 #[v, .int .i64 m] w fun r w' => r = .returned (.int .i64 (m + n)) ∧ Below w.heap.size w w' :=
  (heldBoolS_any v n m w hs hn hm0 hm1).mono fun _ _ ⟨h, m, e⟩ => ⟨h, e ▸ below_drewN (Below.refl _ _) m⟩
end Go.Proofs.Ytahhmpaaggeakaa
