/- The program's records as plain ones. -/
import Derived.Test.YtkaopdpdfbkchaaBase
import Derived.Test.YtkaopdpdfbkchaaPlain
namespace Go.Proofs.Ytkaopdpdfbkchaa
open Go.RowKit Plain
set_option linter.unusedVariables false
set_option linter.unusedSimpArgs false

/-- in the range of an int64 -/
def I64 (n : Int) : Prop := -9223372036854775808 ≤ n ∧ n ≤ 9223372036854775807

/-- a rule of shifts -/
structure SR where
  slots : Int
  least : Int
  most : Int
  row : Int
  pause : Int
def SR.cells (r : SR) : List Value := [vi r.slots, vi r.least, vi r.most, vi r.row, vi r.pause]
def SR.val (r : SR) : Value := .agg #[.int .i64 r.slots, .int .i64 r.least, .int .i64 r.most, .int .i64 r.row, .int .i64 r.pause]
/-- all fields in the range of an int64 -/
def SR.I64 (r : SR) : Prop := Go.Proofs.Ytkaopdpdfbkchaa.I64 r.slots ∧ Go.Proofs.Ytkaopdpdfbkchaa.I64 r.least ∧ Go.Proofs.Ytkaopdpdfbkchaa.I64 r.most ∧ Go.Proofs.Ytkaopdpdfbkchaa.I64 r.row ∧ Go.Proofs.Ytkaopdpdfbkchaa.I64 r.pause

/-- a record of four int64: a trip, a rule, an arc, a job -/
structure Q4 where
  a : Int
  b : Int
  c : Int
  d : Int
deriving DecidableEq
instance : Inhabited Q4 := ⟨⟨0, 0, 0, 0⟩⟩
def Q4.val (q : Q4) : Value := .agg #[.int .i64 q.a, .int .i64 q.b, .int .i64 q.c, .int .i64 q.d]
def Q4.cells (q : Q4) : List Value := [.int .i64 q.a, .int .i64 q.b, .int .i64 q.c, .int .i64 q.d]
def Q4.I64 (q : Q4) : Prop := Go.Proofs.Ytkaopdpdfbkchaa.I64 q.a ∧ Go.Proofs.Ytkaopdpdfbkchaa.I64 q.b ∧ Go.Proofs.Ytkaopdpdfbkchaa.I64 q.c ∧ Go.Proofs.Ytkaopdpdfbkchaa.I64 q.d
theorem q4_ne {a b c d a' b' c' d' : Int} (h : ¬ (⟨a, b, c, d⟩ : Q4) = ⟨a', b', c', d'⟩) : (a == a' && (b == b' && (c == c' && d == d'))) = false := by
  rw [Bool.eq_false_iff]
  intro e
  simp only [Bool.and_eq_true, beq_iff_eq] at e
  exact h (by rw [e.1, e.2.1, e.2.2.1, e.2.2.2])
/-- are the two records one? -/
def q4eq (a b c d a' b' c' d' : Int) : Bool := decide ((⟨a, b, c, d⟩ : Q4) = ⟨a', b', c', d'⟩)
theorem q4eq_t {a b c d a' b' c' d' : Int} (h : q4eq a b c d a' b' c' d' = true) : (⟨a, b, c, d⟩ : Q4) = ⟨a', b', c', d'⟩ := of_decide_eq_true h
theorem q4eq_f {a b c d a' b' c' d' : Int} (h : q4eq a b c d a' b' c' d' = false) : ¬ (⟨a, b, c, d⟩ : Q4) = ⟨a', b', c', d'⟩ := of_decide_eq_false h
/-- the cells of a list of such records -/
def q4s (l : List Q4) : List Value := l.flatMap Q4.cells
theorem q4s_len (l : List Q4) : (q4s l).length = l.length * 4 := by
  induction l with
  | nil => rfl
  | cons x l ih => simp only [q4s, List.flatMap_cons, List.length_append, List.length_cons] at ih ⊢; rw [ih]; simp [Q4.cells]; omega
theorem q4s_append (l m : List Q4) : q4s (l ++ m) = q4s l ++ q4s m := by simp [q4s]
theorem q4s_get {l : List Q4} {k : Nat} (hk : k < l.length) (j : Nat) (hj : j < 4) : (q4s l)[k * 4 + j]? = (Q4.cells l[k])[j]? := by
  induction l generalizing k with
  | nil => simp at hk
  | cons x l ih =>
    have e : q4s (x :: l) = x.cells ++ q4s l := by simp [q4s]
    rw [e]
    cases k with
    | zero => rw [List.getElem?_append_left (by simp [Q4.cells]; omega)]; simp
    | succ k =>
      rw [List.getElem?_append_right (by simp [Q4.cells]; omega), show (k + 1) * 4 + j - x.cells.length = k * 4 + j by simp [Q4.cells]; omega]
      rw [ih (by simpa using hk)]
      simp
theorem q4s_set {l : List Q4} {k : Nat} (hk : k < l.length) (a b c d : Int) :
    ((((q4s l).set (k * 4) (.int .i64 a)).set (k * 4 + 1) (.int .i64 b)).set (k * 4 + 2) (.int .i64 c)).set (k * 4 + 3) (.int .i64 d) = q4s (l.set k ⟨a, b, c, d⟩) := by
  induction l generalizing k with
  | nil => simp at hk
  | cons x l ih =>
    have e : ∀ (y : Q4) (m : List Q4), q4s (y :: m) = .int .i64 y.a :: .int .i64 y.b :: .int .i64 y.c :: .int .i64 y.d :: q4s m := by intro y m; simp [q4s, Q4.cells]
    cases k with
    | zero => simp [e]
    | succ k =>
      have := ih (k := k) (by simpa using hk)
      rw [List.set_cons_succ, e, e, ← this]
      simp [show (k + 1) * 4 = k * 4 + 1 + 1 + 1 + 1 by omega, show (k + 1) * 4 + 1 = k * 4 + 1 + 1 + 1 + 1 + 1 by omega, show (k + 1) * 4 + 2 = k * 4 + 2 + 1 + 1 + 1 + 1 by omega, show (k + 1) * 4 + 3 = k * 4 + 3 + 1 + 1 + 1 + 1 by omega]
theorem q4s_zero (n : Nat) : q4s (List.replicate n ⟨0, 0, 0, 0⟩) = List.replicate (n * 4) (.int .i64 0) := by
  induction n with
  | zero => rfl
  | succ n ih =>
    have e : ∀ (y : Q4) (m : List Q4), q4s (y :: m) = .int .i64 y.a :: .int .i64 y.b :: .int .i64 y.c :: .int .i64 y.d :: q4s m := by intro y m; simp [q4s, Q4.cells]
    rw [List.replicate_succ, e, ih, show (n + 1) * 4 = n * 4 + 1 + 1 + 1 + 1 by omega]
    simp [List.replicate_succ]
/-- element k of a slice of such records -/
theorem Rd.q4 {w : World} {A : Option Addr} {n : Nat} {l : List Q4} (h : Rd w 4 A n (q4s l)) {k : Nat} (hk : k < n) : ∃ b off qa qb qc qd, A = some ⟨b, off, none⟩ ∧ Hid (l[k]? = some ⟨qa, qb, qc, qd⟩) ∧
    w.cell? ⟨b, off + k * 4, none⟩ = some (.int .i64 qa) ∧ w.cell? ⟨b, off + k * 4 + 1, none⟩ = some (.int .i64 qb) ∧ w.cell? ⟨b, off + k * 4 + 2, none⟩ = some (.int .i64 qc) ∧ w.cell? ⟨b, off + k * 4 + 3, none⟩ = some (.int .i64 qd) := by
  obtain ⟨h1, _, h2⟩ := h
  obtain ⟨b, off, hA, hc⟩ := h2 (by omega)
  rw [q4s_len] at h1
  have hl : k < l.length := by omega
  refine ⟨b, off, l[k].a, l[k].b, l[k].c, l[k].d, hA, hd (List.getElem?_eq_getElem hl), hc (k * 4 + 0) _ ?_, ?_, ?_, ?_⟩
  · rw [q4s_get hl 0 (by omega)]; rfl
  · rw [Nat.add_assoc]; exact hc (k * 4 + 1) _ (by rw [q4s_get hl 1 (by omega)]; rfl)
  · rw [Nat.add_assoc]; exact hc (k * 4 + 2) _ (by rw [q4s_get hl 2 (by omega)]; rfl)
  · rw [Nat.add_assoc]; exact hc (k * 4 + 3) _ (by rw [q4s_get hl 3 (by omega)]; rfl)
theorem Rd.q4Len {w : World} {A : Option Addr} {n : Nat} {l : List Q4} (h : Rd w 4 A n (q4s l)) : l.length = n := by
  have := h.1; rw [q4s_len] at this; omega
end Go.Proofs.Ytkaopdpdfbkchaa
