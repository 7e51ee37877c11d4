/- Shifts, the reference's side: the place behind a slot, and a count added to its place. -/
import Derived.Test.YtmjdhignhdphpaaDoorProg
import Derived.Test.YtmjdhignhdphpaaDoorCrews
import Derived.Test.YtmjdhignhdphpaaDoorShiftT
import Derived.Test.YtmjdhignhdphpaaDoorStoreBox
import Derived.Test.YtmjdhignhdphpaaDoorApp
import Derived.Test.YtmjdhignhdphpaaDoorMaxMin
import Derived.Sort.AtCall
namespace Go.Proofs.YtmjdhignhdphpaaDoor
open Go.RowKit Plain
set_option linter.unusedVariables false
set_option linter.unusedSimpArgs false
attribute [local go_sem ↓] Go.wp_at_zero Go.wp_at_succ

set_option maxHeartbeats 1000000 in
theorem goes_free (g o : Nat) (a b c : Int) (h1 : -1 ≤ c) (h2 : c ≤ 24) (w : World) :
    Calls Tryd.prog 20 #[.pointer (some ⟨g, o, none⟩), .agg #[.int .i64 a, .int .i64 b, .int .i64 c], .bool false] w fun r w' => r = .returned (.tuple #[.agg #[.int .i64 a, .int .i64 0, .int .i64 (if 0 ≤ c then c + 1 else c)], .bool true]) ∧ Below w.heap.size w w' := by
  by_cases h : 0 ≤ c
  · rw [if_pos h]
    go_enter Tryd.func20, Tryd.ntmps20
    go_wp2
    refine bodyPost_ret (by simp [results, Tryd.results20, go_sem] <;> rfl) rfl ⟨rfl, ?_⟩
    go_grown
  · rw [if_neg h]
    go_enter Tryd.func20, Tryd.ntmps20
    go_wp2
    refine bodyPost_ret (by simp [results, Tryd.results20, go_sem] <;> rfl) rfl ⟨rfl, ?_⟩
    go_grown
set_option maxHeartbeats 1000000 in
theorem goes_no (g o : Nat) (R : SR) (a b c : Int) (w : World) (hr : SRat w g o R) (h0 : 0 < c) (h1 : c < R.pause) :
    Calls Tryd.prog 20 #[.pointer (some ⟨g, o, none⟩), .agg #[.int .i64 a, .int .i64 b, .int .i64 c], .bool true] w fun r w' => r = .returned (.tuple #[.agg #[.int .i64 a, .int .i64 b, .int .i64 c], .bool false]) ∧ Below w.heap.size w w' := by
  obtain ⟨e0, e1, e2, e3, e4⟩ := hr
  have hgl := block_lt_of_cell e0
  generalize R.pause = pause at *
  clear e0 e1 e2 e3
  go_enter Tryd.func20, Tryd.ntmps20
  go_wp2
  go_quiet (fail)
  go_wp2
  refine bodyPost_ret (by simp [results, Tryd.results20, go_sem] <;> rfl) rfl ⟨rfl, ?_⟩
  go_grown
  refine below_drewN ?_ _
  go_grown
set_option maxHeartbeats 2000000 in
theorem goes_yes (g o : Nat) (R : SR) (a b c : Int) (w : World) (hr : SRat w g o R) (ha : 0 ≤ a) (ha2 : a ≤ 24) (hb : 0 ≤ b) (hb2 : b ≤ 24) (h0 : (decide (0 < c) && decide (c < R.pause)) = false) :
    Calls Tryd.prog 20 #[.pointer (some ⟨g, o, none⟩), .agg #[.int .i64 a, .int .i64 b, .int .i64 c], .bool true] w fun r w' => r = .returned (.tuple #[.agg #[.int .i64 (a + 1), .int .i64 (b + 1), .int .i64 0], .bool (decide (a + 1 ≤ R.most) && decide (b + 1 ≤ R.row))]) ∧ Below w.heap.size w w' := by
  obtain ⟨e0, e1, e2, e3, e4⟩ := hr
  have hgl := block_lt_of_cell e0
  obtain ⟨slots, least, most, row, pause⟩ := R
  simp only at *
  clear e0 e1
  by_cases q3 : a + 1 ≤ most <;> by_cases q4 : b + 1 ≤ row
  all_goals
    by_cases q1 : 0 < c
    · have q2 : ¬ c < pause := by simpa [q1] using h0
      clear h0
      go_enter Tryd.func20, Tryd.ntmps20
      go_wp2
      go_quiet (fail)
      go_wp2
      first
        | (have q6 : decide (a + 1 ≤ most) = false := by rw [decide_eq_false_iff_not]; omega
           go_region)
        | go_region
      go_wp2
      refine bodyPost_ret (by simp [results, Tryd.results20, go_sem] <;> rfl) rfl ⟨?_, ?_⟩
      · simp [*]
      · go_grown
        refine below_drewN ?_ _
        go_grown
    · clear h0
      go_enter Tryd.func20, Tryd.ntmps20
      go_wp2
      have q5 : decide (0 < c) = false := by rw [decide_eq_false_iff_not]; omega
      go_quiet (fail)
      go_wp2
      first
        | (have q6 : decide (a + 1 ≤ most) = false := by rw [decide_eq_false_iff_not]; omega
           go_region)
        | go_region
      go_wp2
      refine bodyPost_ret (by simp [results, Tryd.results20, go_sem] <;> rfl) rfl ⟨?_, ?_⟩
      · simp [*]
      · go_grown
        refine below_drewN ?_ _
        go_grown
/-- the cells of the places -/
def ptC (p : ShiftPt) : List Value := [.int .i64 p.w, .int .i64 p.r, .int .i64 p.f]
def flatP (l : List (ShiftPt × Int)) : List Value := l.flatMap fun x => ptC x.1
def cntP (l : List (ShiftPt × Int)) : List Value := l.map fun x => vi x.2
theorem flatP_cons (x : ShiftPt × Int) (l : List (ShiftPt × Int)) : flatP (x :: l) = .int .i64 x.1.w :: .int .i64 x.1.r :: .int .i64 x.1.f :: flatP l := by simp [flatP, ptC]
theorem flatP_app (l m : List (ShiftPt × Int)) : flatP (l ++ m) = flatP l ++ flatP m := by simp [flatP]
theorem flatP_len (l : List (ShiftPt × Int)) : (flatP l).length = l.length * 3 := by
  induction l with
  | nil => rfl
  | cons x l ih => rw [flatP_cons]; simp only [List.length_cons, ih]; omega
theorem flatP_get {l : List (ShiftPt × Int)} {k : Nat} {x : ShiftPt × Int} (hk : l[k]? = some x) (j : Nat) (hj : j < 3) : (flatP l)[k * 3 + j]? = (ptC x.1)[j]? := by
  induction l generalizing k with
  | nil => simp at hk
  | cons y l ih =>
    cases k with
    | zero =>
      simp at hk
      subst hk
      rw [flatP_cons]
      match j, hj with
      | 0, _ => rfl
      | 1, _ => rfl
      | 2, _ => rfl
    | succ k =>
      rw [flatP_cons, show (k + 1) * 3 + j = k * 3 + j + 1 + 1 + 1 by omega, List.getElem?_cons_succ, List.getElem?_cons_succ, List.getElem?_cons_succ]
      exact ih (by simpa using hk)
theorem flatP_set {l : List (ShiftPt × Int)} {k : Nat} {x : ShiftPt × Int} (hk : l[k]? = some x) (c : Int) : flatP (l.set k (x.1, c)) = flatP l := by
  induction l generalizing k with
  | nil => simp at hk
  | cons y l ih =>
    cases k with
    | zero => simp at hk; subst hk; rw [List.set_cons_zero, flatP_cons, flatP_cons]
    | succ k => rw [List.set_cons_succ, flatP_cons, flatP_cons, ih (by simpa using hk)]
theorem cntP_set (l : List (ShiftPt × Int)) (k : Nat) (p : ShiftPt) (c : Int) : cntP (l.set k (p, c)) = (cntP l).set k (vi c) := by simp [cntP, List.map_set]
/-- place k -/
theorem Rd.p3 {w : World} {A : Option Addr} {n : Nat} {l : List (ShiftPt × Int)} (h : Rd w 3 A n (flatP l)) {k : Nat} (hk : k < n) : ∃ b off qa qb qc q, A = some ⟨b, off, none⟩ ∧ Hid (l[k]? = some (⟨qa, qb, qc⟩, q)) ∧
    w.cell? ⟨b, off + k * 3, none⟩ = some (.int .i64 qa) ∧ w.cell? ⟨b, off + k * 3 + 1, none⟩ = some (.int .i64 qb) ∧ w.cell? ⟨b, off + k * 3 + 2, none⟩ = some (.int .i64 qc) := by
  obtain ⟨h1, _, h2⟩ := h
  obtain ⟨b, off, hA, hc⟩ := h2 (by omega)
  rw [flatP_len] at h1
  have hl : k < l.length := by omega
  have e := List.getElem?_eq_getElem hl
  refine ⟨b, off, l[k].1.w, l[k].1.r, l[k].1.f, l[k].2, hA, hd e, hc (k * 3 + 0) _ ?_, ?_, ?_⟩
  · rw [flatP_get e 0 (by omega)]; rfl
  · rw [Nat.add_assoc]; exact hc (k * 3 + 1) _ (by rw [flatP_get e 1 (by omega)]; rfl)
  · rw [Nat.add_assoc]; exact hc (k * 3 + 2) _ (by rw [flatP_get e 2 (by omega)]; rfl)
theorem cntP_int {w : World} {A : Option Addr} {n : Nat} {l : List (ShiftPt × Int)} (h : Rd w 1 A n (cntP l)) {k : Nat} (hk : k < n) {p : ShiftPt} {q : Int} (hq : l[k]? = some (p, q)) : ∃ b off, A = some ⟨b, off, none⟩ ∧ w.cell? ⟨b, off + k, none⟩ = some (.int .i64 q) := by
  obtain ⟨h1, _, h2⟩ := h
  obtain ⟨b, off, hA, hc⟩ := h2 (by omega)
  exact ⟨b, off, hA, hc k _ (by simp [cntP, hq, vi])⟩

end Go.Proofs.YtmjdhignhdphpaaDoor
