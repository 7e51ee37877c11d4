/- The laws' helpers on slices of int64: a copy, equality, marks. -/
import Derived.Test.YtclkgfcehmmgaaaProg
import Derived.Test.YtclkgfcehmmgaaaBase
import Derived.Test.YtclkgfcehmmgaaaPlain
namespace Go.Proofs.Ytclkgfcehmmgaaa
open Go.RowKit Plain
set_option linter.unusedVariables false
set_option linter.unusedSimpArgs false
attribute [local go_sem ↓] Go.wp_at_zero Go.wp_at_succ

/-- The call hands back a new slice that reads xs; nothing that was there has turned. -/
def OutL (E size : Nat) (n : Nat) (xs : List Value) (mk : Value → Value) (w : World) (r : Ending) (w' : World) : Prop := ∃ u, r = .returned (mk u) ∧ w'.ownsRow w.heap.size E size u n xs ∧ Below w.heap.size w w'
def NewRow (E size : Nat) (n : Nat) (xs : List Value) (w : World) (r : Ending) (w' : World) : Prop := ∃ u, r = .returned u ∧ w'.ownsRow w.heap.size E size u n xs ∧ Below w.heap.size w w'
/-- The call has written its own slice u anew, and nothing else. -/
def MarkedRow (E size : Nat) (u : Value) (n : Nat) (xs : List Value) (base : Nat) (k : Int) (w : World) (r : Ending) (w' : World) : Prop := r = .returned (.int .i64 k) ∧ w'.ownsRow base E size u n xs ∧ w.grownBy w' u.ownBlock
/-- The call has read only: draws alone. -/
def Draws (v : Value) (w : World) (r : Ending) (w' : World) : Prop := r = .returned v ∧ ∃ m, w' = w.drewN m

theorem one_cell {u : Value} (h : u.oneCell' = true) : ∀ x ∈ [u], x.oneCell' = true := by
  intro x hx
  simp at hx
  subst hx
  exact h
theorem app1 {n : Nat} (h : n ≤ 1048576) : n + 1 ≤ maxLen := by unfold maxLen; omega
theorem infoI64 : (Try.prog.info? 2).map (fun i => (i.zero, i.size, i.bytes)) = some (some (.int .i64 0), 1, 8) := by kernel_rfl

set_option maxHeartbeats 400000 in
/-- 'laws.eqInt64S': the lists are equal. -/
theorem eqInt64S_any (v u : Value) (xs ys : List Int) (w : World) (hs : Sl w 1 v xs.length (xs.map vi)) (ht : Sl w 1 u ys.length (ys.map vi)) :
    Calls Try.prog 21 #[v, u] w (Draws (.bool (xs == ys)) w) := by
  obtain ⟨A, cap, rfl, hcap, hr⟩ := hs
  obtain ⟨A', cap', rfl, hcap', hr'⟩ := ht
  have hm := hr.2.1
  have hm' := hr'.2.1
  unfold maxLen at hm hm'
  generalize hn : xs.length = n at *
  generalize hn' : ys.length = n' at *
  have Hn := hd hn.symm
  have Hn' := hd hn'.symm
  clear hn hn'
  by_cases hnn : n = n'
  · subst hnn
    go_enter Try.func21, Try.ntmps21
    go_wp2
    go_loopw [5] (fun i wr => ∃ k : Nat, k ≤ n ∧ i = .int .i64 k ∧ Hid (xs.take k = ys.take k) ∧ ∃ m, wr = w.drewN m) (fun i _ => n - (intOf i).toNat)
    case atStart => exact ⟨0, by omega, rfl, by simp [Hid], 0, rfl⟩
    case round =>
      obtain ⟨k, hk, rfl, he, m, rfl⟩ := hrel
      by_cases hlt : k < n
      · obtain ⟨b, off, rfl, hc⟩ := hr.int hlt
        obtain ⟨b', off', rfl, hc'⟩ := hr'.int hlt
        have i1 : (0 : Int) ≤ (k : Int) := by omega
        have i2 : (k : Int) < (n : Int) := by omega
        go_wp2
        go_quiet (fail)
        go_wp2
        · have h : (xs[k]?.getD 0 != ys[k]?.getD 0) = true := by assumption
          rw [bne_iff_ne] at h
          go_ret
          exact ⟨ret_bool (by simpa using ne_of_getD h), drew2 _ _ _⟩
        · have h : (xs[k]?.getD 0 != ys[k]?.getD 0) = false := by assumption
          rw [bne_eq_false_iff_eq] at h
          go_roundw
          case rel => exact ⟨k + 1, by omega, by go_num, take_succ_eq he.out (by have := Hn.out; omega) (by have := Hn'.out; omega) h, _, rfl⟩
          case measure => simp [intOf]; omega
      · have hkn : k = n := by omega
        subst hkn
        go_wp2
        go_ret
        exact ⟨ret_bool (by simpa using (eq_of_take he.out Hn.out.symm Hn'.out.symm)), _, rfl⟩
  · go_enter Try.func21, Try.ntmps21
    have hne : ¬ ((n : Int) = (n' : Int)) := by omega
    go_wp2
    go_ret
    refine ⟨ret_bool ?_, 0, rfl⟩
    symm
    rw [beq_eq_false_iff_ne]
    rintro rfl
    exact hnn (Hn.out.trans Hn'.out.symm)

theorem eqInt64S_b (v u : Value) (xs ys : List Int) (w : World) (hs : Sl w 1 v xs.length (xs.map vi)) (ht : Sl w 1 u ys.length (ys.map vi)) :
    Calls Try.prog 21 #[v, u] w fun r w' => r = .returned (.bool (xs == ys)) ∧ Below w.heap.size w w' :=
  (eqInt64S_any v u xs ys w hs ht).mono fun _ _ ⟨h, m, e⟩ => ⟨h, e ▸ below_drewN (Below.refl _ _) m⟩

set_option maxHeartbeats 400000 in
/-- 'laws.markInt64S': the slice holds m, m + 1, ..; nothing else has turned. -/
theorem markInt64S_any (v : Value) (xs : List Value) (n base : Nat) (m : Int) (w : World) (ho : w.ownsRow base 2 1 v n xs) (hn : n ≤ 1048576) (hm0 : 0 ≤ m) (hm1 : m ≤ 1099511627776) :
    Calls Try.prog 24 #[v, .int .i64 m] w (MarkedRow 2 1 v n ((marks n m).map vi) base (m + n) w) := by
  obtain ⟨A, cap, rfl, hcap, hr, hA⟩ := own_rd ho (size_le hn)
  have hl : xs.length = n := by have := ho.1; simpa using this
  have Hl := hd hl
  clear hl
  go_enter Try.func24, Try.ntmps24
  go_wp2
  go_loopw [1, 5] (fun q i wr => ∃ k : Nat, k ≤ n ∧ i = .int .i64 k ∧ q = .int .i64 (m + k) ∧ wr.ownsRow base 2 1 (.slice A n cap) n (((List.range k).map fun (i : Nat) => vi (m + (i : Int))) ++ xs.drop k) ∧ w.grownBy wr (Value.ownBlock (.slice A n cap))) (fun _ i _ => n - (intOf i).toNat)
  case atStart => exact ⟨0, by omega, rfl, by simp, by simpa using ho, World.grownBy.refl _ _⟩
  case round =>
    obtain ⟨k, hk, rfl, rfl, ho1, hg⟩ := hrel
    clear ho hr
    by_cases hlt : k < n
    · rcases hA with ⟨_, hc0⟩ | ⟨g, rfl, hg1, hg2⟩
      · omega
      have hcell := ho1.cellAt k (by omega)
      have hfro := ho1.frozenAt k
      have hz : ∃ z, (((List.range k).map fun (i : Nat) => vi (m + (i : Int))) ++ xs.drop k)[k]? = some z := by
        have := Hl.out
        refine ⟨_, List.getElem?_eq_getElem ?_⟩
        simp; omega
      obtain ⟨z, hz⟩ := hz
      rw [hz] at hcell
      clear hz
      have Hs := hd (ho1.stored k (vi (m + k)))
      have Hg := hd hg
      clear ho1 hg
      go_wp2
      go_roundw
      case rel =>
        have e := Hs.out.1
        have hst := mark_step (fun (i : Nat) => vi (m + (i : Int))) xs n k Hl.out hlt
        rw [hst] at e
        exact ⟨k + 1, by omega, by go_num, by go_num, e, Hg.out.trans Hs.out.2⟩
      case measure => simp [intOf]; omega
    · have hkn : k = n := by omega
      subst hkn
      go_wp2
      go_ret
      refine ⟨rfl, ?_, hg⟩
      have e := ho1
      rw [List.drop_eq_nil_of_le (by have := Hl.out; omega), List.append_nil] at e
      simpa [marks, Function.comp_def] using e

set_option maxHeartbeats 400000 in
/-- 'laws.heldInt64S' of a slice that holds the marks. -/
theorem heldInt64S_any (v : Value) (n : Nat) (m : Int) (w : World) (hs : Sl w 1 v n ((marks n m).map vi)) (hn : n ≤ 1048576) (hm0 : 0 ≤ m) (hm1 : m ≤ 1099511627776) :
    Calls Try.prog 25 #[v, .int .i64 m] w (Draws (.int .i64 (m + n)) w) := by
  obtain ⟨A, cap, rfl, hcap, hr⟩ := hs
  go_enter Try.func25, Try.ntmps25
  go_wp2
  go_loopw [1, 5] (fun q i wr => ∃ k : Nat, k ≤ n ∧ i = .int .i64 k ∧ q = .int .i64 (m + k) ∧ ∃ j, wr = w.drewN j) (fun _ i _ => n - (intOf i).toNat)
  case atStart => exact ⟨0, by omega, rfl, by simp, 0, rfl⟩
  case round =>
    obtain ⟨k, hk, rfl, rfl, j, rfl⟩ := hrel
    by_cases hlt : k < n
    · obtain ⟨b, off, rfl, hc⟩ := hr.int hlt
      have e : (marks n m).getD k 0 = m + k := by rw [List.getD_eq_getElem?_getD, marks_get n m k hlt]; rfl
      rw [e] at hc
      clear e hr
      have i1 : (0 : Int) ≤ (k : Int) := by omega
      have i2 : (k : Int) < (n : Int) := by omega
      go_wp2
      go_roundw
      case rel => exact ⟨k + 1, by omega, by go_num, by go_num, _, rfl⟩
      case measure => simp [intOf]; omega
    · have hkn : k = n := by omega
      subst hkn
      go_wp2
      go_ret
      exact ⟨rfl, _, rfl⟩
theorem heldInt64S_b (v : Value) (n : Nat) (m : Int) (w : World) (hs : Sl w 1 v n ((marks n m).map vi)) (hn : n ≤ 1048576) (hm0 : 0 ≤ m) (hm1 : m ≤ 1099511627776) :
    Calls Try.prog 25 #[v, .int .i64 m] w fun r w' => r = .returned (.int .i64 (m + n)) ∧ Below w.heap.size w w' :=
  (heldInt64S_any v n m w hs hn hm0 hm1).mono fun _ _ ⟨h, m, e⟩ => ⟨h, e ▸ below_drewN (Below.refl _ _) m⟩
end Go.Proofs.Ytclkgfcehmmgaaa
