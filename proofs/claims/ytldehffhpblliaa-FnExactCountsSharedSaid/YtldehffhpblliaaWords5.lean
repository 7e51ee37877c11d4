/- Slices of rules of shifts: records of five int64. -/
import Derived.Test.YtldehffhpblliaaWords
namespace Go.Proofs.Ytldehffhpblliaa
open Go.RowKit Plain
set_option linter.unusedVariables false
set_option linter.unusedSimpArgs false

theorem sr_iff {r s : SR} : (r.slots = s.slots ∧ r.least = s.least ∧ r.most = s.most ∧ r.row = s.row ∧ r.pause = s.pause) ↔ r = s := by
  cases r; cases s; simp
instance : DecidableEq SR := fun _ _ => decidable_of_iff _ sr_iff
instance : Inhabited SR := ⟨⟨0, 0, 0, 0, 0⟩⟩
/-- are the two records one? -/
def s5eq (a b c d e a' b' c' d' e' : Int) : Bool := decide ((⟨a, b, c, d, e⟩ : SR) = ⟨a', b', c', d', e'⟩)
theorem s5eq_t {a b c d e a' b' c' d' e' : Int} (h : s5eq a b c d e a' b' c' d' e' = true) : (⟨a, b, c, d, e⟩ : SR) = ⟨a', b', c', d', e'⟩ := of_decide_eq_true h
theorem s5eq_f {a b c d e a' b' c' d' e' : Int} (h : s5eq a b c d e a' b' c' d' e' = false) : ¬ (⟨a, b, c, d, e⟩ : SR) = ⟨a', b', c', d', e'⟩ := of_decide_eq_false h
/-- the cells of a list of such records -/
def s5s (l : List SR) : List Value := l.flatMap SR.cells
theorem s5s_cons (y : SR) (m : List SR) : s5s (y :: m) = .int .i64 y.slots :: .int .i64 y.least :: .int .i64 y.most :: .int .i64 y.row :: .int .i64 y.pause :: s5s m := by simp [s5s, SR.cells, vi]
theorem s5s_len (l : List SR) : (s5s l).length = l.length * 5 := by
  induction l with
  | nil => rfl
  | cons x l ih => rw [s5s_cons]; simp only [List.length_cons, ih]; omega
theorem s5s_append (l m : List SR) : s5s (l ++ m) = s5s l ++ s5s m := by simp [s5s]
theorem s5s_get {l : List SR} {k : Nat} (hk : k < l.length) (j : Nat) (hj : j < 5) : (s5s l)[k * 5 + j]? = (SR.cells l[k])[j]? := by
  induction l generalizing k with
  | nil => simp at hk
  | cons x l ih =>
    have e : s5s (x :: l) = x.cells ++ s5s l := by simp [s5s]
    rw [e]
    cases k with
    | zero => rw [List.getElem?_append_left (by simp [SR.cells]; omega)]; simp
    | succ k =>
      rw [List.getElem?_append_right (by simp [SR.cells]; omega), show (k + 1) * 5 + j - x.cells.length = k * 5 + j by simp [SR.cells]; omega]
      rw [ih (by simpa using hk)]
      simp
theorem s5s_set {l : List SR} {k : Nat} (hk : k < l.length) (a b c d e : Int) :
    (((((s5s l).set (k * 5) (.int .i64 a)).set (k * 5 + 1) (.int .i64 b)).set (k * 5 + 2) (.int .i64 c)).set (k * 5 + 3) (.int .i64 d)).set (k * 5 + 4) (.int .i64 e) = s5s (l.set k ⟨a, b, c, d, e⟩) := by
  induction l generalizing k with
  | nil => simp at hk
  | cons x l ih =>
    cases k with
    | zero => simp [s5s_cons]
    | succ k =>
      have := ih (k := k) (by simpa using hk)
      rw [List.set_cons_succ, s5s_cons, s5s_cons, ← this]
      simp [show (k + 1) * 5 = k * 5 + 1 + 1 + 1 + 1 + 1 by omega, show (k + 1) * 5 + 1 = k * 5 + 1 + 1 + 1 + 1 + 1 + 1 by omega, show (k + 1) * 5 + 2 = k * 5 + 2 + 1 + 1 + 1 + 1 + 1 by omega, show (k + 1) * 5 + 3 = k * 5 + 3 + 1 + 1 + 1 + 1 + 1 by omega, show (k + 1) * 5 + 4 = k * 5 + 4 + 1 + 1 + 1 + 1 + 1 by omega]
theorem s5s_zero (n : Nat) : s5s (List.replicate n ⟨0, 0, 0, 0, 0⟩) = List.replicate (n * 5) (.int .i64 0) := by
  induction n with
  | zero => rfl
  | succ n ih =>
    rw [List.replicate_succ, s5s_cons, ih, show (n + 1) * 5 = n * 5 + 1 + 1 + 1 + 1 + 1 by omega]
    simp [List.replicate_succ]
/-- element k of a slice of such records -/
theorem Rd.s5 {w : World} {A : Option Addr} {n : Nat} {l : List SR} (h : Rd w 5 A n (s5s l)) {k : Nat} (hk : k < n) : ∃ b off qa qb qc qd qe, A = some ⟨b, off, none⟩ ∧ Hid (l[k]? = some ⟨qa, qb, qc, qd, qe⟩) ∧
    w.cell? ⟨b, off + k * 5, none⟩ = some (.int .i64 qa) ∧ w.cell? ⟨b, off + k * 5 + 1, none⟩ = some (.int .i64 qb) ∧ w.cell? ⟨b, off + k * 5 + 2, none⟩ = some (.int .i64 qc) ∧ w.cell? ⟨b, off + k * 5 + 3, none⟩ = some (.int .i64 qd) ∧ w.cell? ⟨b, off + k * 5 + 4, none⟩ = some (.int .i64 qe) := by
  obtain ⟨h1, _, h2⟩ := h
  obtain ⟨b, off, hA, hc⟩ := h2 (by omega)
  rw [s5s_len] at h1
  have hl : k < l.length := by omega
  refine ⟨b, off, l[k].slots, l[k].least, l[k].most, l[k].row, l[k].pause, hA, hd (List.getElem?_eq_getElem hl), hc (k * 5 + 0) _ ?_, ?_, ?_, ?_, ?_⟩
  · rw [s5s_get hl 0 (by omega)]; rfl
  · rw [Nat.add_assoc]; exact hc (k * 5 + 1) _ (by rw [s5s_get hl 1 (by omega)]; rfl)
  · rw [Nat.add_assoc]; exact hc (k * 5 + 2) _ (by rw [s5s_get hl 2 (by omega)]; rfl)
  · rw [Nat.add_assoc]; exact hc (k * 5 + 3) _ (by rw [s5s_get hl 3 (by omega)]; rfl)
  · rw [Nat.add_assoc]; exact hc (k * 5 + 4) _ (by rw [s5s_get hl 4 (by omega)]; rfl)
theorem Rd.s5Len {w : World} {A : Option Addr} {n : Nat} {l : List SR} (h : Rd w 5 A n (s5s l)) : l.length = n := by
  have := h.1; rw [s5s_len] at this; omega
end Go.Proofs.Ytldehffhpblliaa
