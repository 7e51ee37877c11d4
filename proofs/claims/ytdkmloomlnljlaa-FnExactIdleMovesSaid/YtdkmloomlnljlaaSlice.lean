/- The laws' helpers on slices of int64: a copy, equality, marks. -/
import Derived.Test.YtdkmloomlnljlaaProg
import Derived.Test.YtdkmloomlnljlaaBase
import Derived.Test.YtdkmloomlnljlaaPlain
namespace Go.Proofs.Ytdkmloomlnljlaa
open Go.RowKit Plain
set_option linter.unusedVariables false
set_option linter.unusedSimpArgs false
attribute [local go_sem ↓] Go.wp_at_zero Go.wp_at_succ

/-- The call hands back a new slice that reads xs; nothing that was there has turned. -/
def OutL (E size : Nat) (n : Nat) (xs : List Value) (mk : Value → Value) (w : World) (r : Ending) (w' : World) : Prop := ∃ u, r = .returned (mk u) ∧ w'.ownsRow w.heap.size E size u n xs ∧ Below w.heap.size w w'
def NewRow (E size : Nat) (n : Nat) (xs : List Value) (w : World) (r : Ending) (w' : World) : Prop := ∃ u, r = .returned u ∧ w'.ownsRow w.heap.size E size u n xs ∧ Below w.heap.size w w'
/-- The call has written its own slice u anew, and nothing else. -/
def MarkedRow (E size : Nat) (u : Value) (n : Nat) (xs : List Value) (base : Nat) (k : Int) (w : World) (r : Ending) (w' : World) : Prop := r = .returned (.int .i64 k) ∧ w'.ownsRow base E size u n xs ∧ w.grownBy w' u.ownBlock
/-- The call has read only: draws alone. -/
def Draws (v : Value) (w : World) (r : Ending) (w' : World) : Prop := r = .returned v ∧ ∃ m, w' = w.drewN m

theorem one_cell {u : Value} (h : u.oneCell' = true) : ∀ x ∈ [u], x.oneCell' = true := by
  intro x hx
  simp at hx
  subst hx
  exact h
theorem app1 {n : Nat} (h : n ≤ 1048576) : n + 1 ≤ maxLen := by unfold maxLen; omega
theorem infoI64 : (Try.prog.info? 2).map (fun i => (i.zero, i.size, i.bytes)) = some (some (.int .i64 0), 1, 8) := by kernel_rfl

set_option maxHeartbeats 400000 in
/-- 'laws.toInt64S': a copy in new memory. -/
theorem toInt64S_any (v : Value) (xs : List Int) (w : World) (hs : Sl w 1 v xs.length (xs.map vi)) (hx : xs.length ≤ 1048576) :
    Calls Try.prog 7 #[v] w (NewRow 2 1 xs.length (xs.map vi) w) := by
  obtain ⟨A, cap, rfl, hcap, hr⟩ := hs
  obtain ⟨i0, hi, hz0, hz1, hz2⟩ := info_parts infoI64
  have hm := size_le hx
  generalize hn : xs.length = n at *
  have Hn := hd hn.symm
  clear hn
  go_enter Try.func7, Try.ntmps7
  have hb2 : i0.bytes * n ≤ 281474976710656 := by rw [hz2]; omega
  go_wp2_with (at_make; go_must (refine wpList_make_full _ rfl (.tmp 6) (.tmp 6) 23 rfl w.heap.size 2 i0 (.int .i64 0) 1 Try.underlying23 hi hz0 hz1 .i64 .i64 _ _ n rfl rfl rfl rfl hb2 hm (Nat.le_refl _) ?_); intro w1 hown hgrow)
  have hb1 := below_none hgrow
  clear hgrow
  have hown1 := hown
  go_loopw [4] (fun i wr => ∃ k : Nat, k ≤ n ∧ i = .int .i64 k ∧ wr.ownsRow w.heap.size 2 1 (.slice (some ⟨w.heap.size, 0, none⟩) n n) n ((xs.take k).map vi ++ List.replicate (n - k) (vi 0)) ∧ Below w.heap.size w wr) (fun i _ => n - (intOf i).toNat)
  case atStart =>
    refine ⟨0, by omega, rfl, ?_, hb1⟩
    simpa [toList_madeCells_one, vi, Value.cells] using hown1
  case round =>
    obtain ⟨k, hk, rfl, ho, hb⟩ := hrel
    clear hown hown1 hb1
    by_cases hlt : k < n
    · obtain ⟨b, off, rfl, hc⟩ := hr.int hlt
      have hc' := below_at hb hc
      have hcell := ho.cellAt k (by omega)
      have hfro := ho.frozenAt k
      have hz : ((xs.take k).map vi ++ List.replicate (n - k) (vi 0))[k]? = some (.int .i64 0) := by
        have := Hn.out
        rw [List.getElem?_append_right (by simp; omega), List.getElem?_replicate, if_pos (by simp; omega)]
        rfl
      rw [hz] at hcell
      clear hz
      have Hs := hd (ho.stored k (vi (xs.getD k 0)))
      have Hb := hd hb
      clear hc ho hb
      go_wp2
      go_roundw
      case rel =>
        refine ⟨k + 1, by omega, by go_num, ?_, ?_⟩
        · have := Hs.out.1
          have hl : k < xs.length := by have := Hn.out; omega
          have e : ((xs.take k).map vi ++ List.replicate (n - k) (vi 0)).set k (vi (xs.getD k 0)) = (xs.take (k + 1)).map vi ++ List.replicate (n - (k + 1)) (vi 0) := by
            have := fill_step (xs.map vi) (vi 0) k (by simpa using hl)
            simp [← Hn.out] at this
            simpa [hl, List.getD_eq_getElem?_getD] using this
          rw [e] at this
          simpa [vi, List.getD_eq_getElem?_getD] using this
        · exact Hb.out.setCell (Nat.le_refl _) _
      case measure => simp [intOf]; omega
    · have hkn : k = n := by omega
      subst hkn
      go_wp2
      go_ret
      refine ⟨_, rfl, ?_, hb⟩
      have := ho
      rw [Hn.out] at this ⊢
      simpa using this

set_option maxHeartbeats 400000 in
/-- 'laws.eqInt64S': the lists are equal. -/
theorem eqInt64S_any (v u : Value) (xs ys : List Int) (w : World) (hs : Sl w 1 v xs.length (xs.map vi)) (ht : Sl w 1 u ys.length (ys.map vi)) :
    Calls Try.prog 10 #[v, u] w (Draws (.bool (xs == ys)) w) := by
  obtain ⟨A, cap, rfl, hcap, hr⟩ := hs
  obtain ⟨A', cap', rfl, hcap', hr'⟩ := ht
  have hm := hr.2.1
  have hm' := hr'.2.1
  unfold maxLen at hm hm'
  generalize hn : xs.length = n at *
  generalize hn' : ys.length = n' at *
  have Hn := hd hn.symm
  have Hn' := hd hn'.symm
  clear hn hn'
  by_cases hnn : n = n'
  · subst hnn
    go_enter Try.func10, Try.ntmps10
    go_wp2
    go_loopw [5] (fun i wr => ∃ k : Nat, k ≤ n ∧ i = .int .i64 k ∧ Hid (xs.take k = ys.take k) ∧ ∃ m, wr = w.drewN m) (fun i _ => n - (intOf i).toNat)
    case atStart => exact ⟨0, by omega, rfl, by simp [Hid], 0, rfl⟩
    case round =>
      obtain ⟨k, hk, rfl, he, m, rfl⟩ := hrel
      by_cases hlt : k < n
      · obtain ⟨b, off, rfl, hc⟩ := hr.int hlt
        obtain ⟨b', off', rfl, hc'⟩ := hr'.int hlt
        have i1 : (0 : Int) ≤ (k : Int) := by omega
        have i2 : (k : Int) < (n : Int) := by omega
        go_wp2
        go_quiet (fail)
        go_wp2
        · have h : (xs[k]?.getD 0 != ys[k]?.getD 0) = true := by assumption
          rw [bne_iff_ne] at h
          go_ret
          exact ⟨ret_bool (by simpa using ne_of_getD h), drew2 _ _ _⟩
        · have h : (xs[k]?.getD 0 != ys[k]?.getD 0) = false := by assumption
          rw [bne_eq_false_iff_eq] at h
          go_roundw
          case rel => exact ⟨k + 1, by omega, by go_num, take_succ_eq he.out (by have := Hn.out; omega) (by have := Hn'.out; omega) h, _, rfl⟩
          case measure => simp [intOf]; omega
      · have hkn : k = n := by omega
        subst hkn
        go_wp2
        go_ret
        exact ⟨ret_bool (by simpa using (eq_of_take he.out Hn.out.symm Hn'.out.symm)), _, rfl⟩
  · go_enter Try.func10, Try.ntmps10
    have hne : ¬ ((n : Int) = (n' : Int)) := by omega
    go_wp2
    go_ret
    refine ⟨ret_bool ?_, 0, rfl⟩
    symm
    rw [beq_eq_false_iff_ne]
    rintro rfl
    exact hnn (Hn.out.trans Hn'.out.symm)

theorem eqInt64S_b (v u : Value) (xs ys : List Int) (w : World) (hs : Sl w 1 v xs.length (xs.map vi)) (ht : Sl w 1 u ys.length (ys.map vi)) :
    Calls Try.prog 10 #[v, u] w fun r w' => r = .returned (.bool (xs == ys)) ∧ Below w.heap.size w w' :=
  (eqInt64S_any v u xs ys w hs ht).mono fun _ _ ⟨h, m, e⟩ => ⟨h, e ▸ below_drewN (Below.refl _ _) m⟩

end Go.Proofs.Ytdkmloomlnljlaa
