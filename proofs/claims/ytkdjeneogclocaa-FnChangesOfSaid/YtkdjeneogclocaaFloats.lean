/- Floats with all NaNs as one: what '+', '-', '*', '/' give, whatever bits a NaN gets. No program stands here. -/
import Derived.Test.YtkdjeneogclocaaBase
import Derived.Laws.FloatArith
namespace Go.Proofs.Ytkdjeneogclocaa
open Go.RowKit
set_option linter.unusedVariables false
set_option linter.unusedSimpArgs false

/-- a float's bits; none: some NaN -/
def nrm (k : FloatKind) (b : Nat) : Option Nat := if (k.format.read b).isNaN then none else some b
/-- an operation on such floats -/
def fop (op : BinOp) (k : FloatKind) (x y : Option Nat) : Option Nat := x.bind fun a => y.bind fun b => floatBits op k a b

theorem infRung_pos (f : Ieee.Format) : f.infRung ≤ f.infRung := Nat.le_refl _
theorem read_word_isNaN (f : Ieee.Format) (neg : Bool) (r : Nat) (h : r ≤ f.infRung) : (f.read (f.word neg r)).isNaN = false := by
  have hlt := f.infRung_lt
  have hr : r < f.signWeight := Nat.lt_of_le_of_lt h hlt
  have hm : f.word neg r % f.signWeight = r := by
    unfold Ieee.Format.word
    cases neg
    · simpa using Nat.mod_eq_of_lt hr
    · simpa using Nat.mod_eq_of_lt hr
  unfold Ieee.Format.read
  simp only [hm]
  by_cases h1 : r < f.binade
  · simp [h1, Ieee.Datum.isNaN]
  · by_cases h2 : r < f.infRung
    · simp [h1, h2, Ieee.Datum.isNaN]
    · have h3 : r = f.infRung := by omega
      subst h3
      simp [h1, Ieee.Datum.isNaN]
theorem nearest_isNaN (f : Ieee.Format) (neg : Bool) (m : Nat) (p : Int) : (f.read (f.nearest neg m p)).isNaN = false := by
  unfold Ieee.Format.nearest
  dsimp only
  split
  · exact read_word_isNaN f neg 0 (Nat.zero_le _)
  · exact read_word_isNaN f neg _ (Nat.min_le_right ..)
theorem write_isNaN (f : Ieee.Format) (d : Ieee.Datum) (h : d.isNaN = false) : (f.read (f.write d)).isNaN = false := by
  cases d with
  | number neg mag place => exact nearest_isNaN f neg mag place
  | infinity neg => exact read_word_isNaN f neg _ (Nat.le_refl _)
  | nan neg fr => simp [Ieee.Datum.isNaN] at h

theorem sum_isNaN {x y d : Ieee.Datum} (h : x.sum y = some d) : d.isNaN = false := by
  cases x <;> cases y <;> simp [Ieee.Datum.sum] at h <;> try (subst h; rfl)
  · obtain ⟨_, rfl⟩ := h; rfl
theorem product_isNaN {x y d : Ieee.Datum} (h : x.product y = some d) : d.isNaN = false := by
  cases x <;> cases y <;> simp [Ieee.Datum.product] at h
  · subst h; rfl
  · obtain ⟨_, rfl⟩ := h; rfl
  · obtain ⟨_, rfl⟩ := h; rfl
  · subst h; rfl
theorem quotient_isNaN {n : Nat} {x y d : Ieee.Datum} (h : x.quotient n y = some d) : d.isNaN = false := by
  cases x with
  | number s m i =>
    cases y with
    | number t q j =>
      simp only [Ieee.Datum.quotient] at h
      split at h
      · split at h
        · simp at h
        · simp at h; subst h; rfl
      · simp at h; subst h; rfl
    | infinity t => simp [Ieee.Datum.quotient] at h; subst h; rfl
    | nan t fr => simp [Ieee.Datum.quotient] at h
  | infinity s =>
    cases y with
    | number t q j => simp [Ieee.Datum.quotient] at h; subst h; rfl
    | infinity t => simp [Ieee.Datum.quotient] at h
    | nan t fr => simp [Ieee.Datum.quotient] at h
  | nan s fr => cases y <;> simp [Ieee.Datum.quotient] at h
theorem floatBits_isNaN {op : BinOp} {k : FloatKind} {x y r : Nat} (h : floatBits op k x y = some r) : (k.format.read r).isNaN = false := by
  cases op <;> simp only [floatBits] at h <;> try (cases h; done)
  · obtain ⟨d, hd, rfl⟩ := Option.map_eq_some_iff.1 h
    exact write_isNaN _ _ (sum_isNaN hd)
  · obtain ⟨d, hd, rfl⟩ := Option.map_eq_some_iff.1 h
    exact write_isNaN _ _ (sum_isNaN hd)
  · obtain ⟨d, hd, rfl⟩ := Option.map_eq_some_iff.1 h
    exact write_isNaN _ _ (product_isNaN hd)
  · obtain ⟨d, hd, rfl⟩ := Option.map_eq_some_iff.1 h
    exact write_isNaN _ _ (quotient_isNaN hd)
theorem opp_isNaN (d : Ieee.Datum) : d.opposite.isNaN = d.isNaN := by cases d <;> rfl
theorem floatBits_nan {op : BinOp} {k : FloatKind} {x y : Nat} (h : (k.format.read x).isNaN = true ∨ (k.format.read y).isNaN = true) : floatBits op k x y = none := by
  cases op <;> simp only [floatBits, Ieee.Format.add, Ieee.Format.sub, Ieee.Format.mul, Ieee.Format.div]
  all_goals
    rw [Option.map_eq_none_iff]
    generalize k.format.read x = a at *
    generalize k.format.read y = b at *
    cases a <;> cases b <;> simp [Ieee.Datum.isNaN, Ieee.Datum.sum, Ieee.Datum.product, Ieee.Datum.quotient, Ieee.Datum.opposite] at *
theorem nan_cut (k : FloatKind) (x y t : Nat) : nrm k (Question.cut (.nanBits k x y) t) = none := by
  rw [nrm, if_pos]
  cases k
  · have h1 : (t / 2) % (2 ^ 23 - 1) < 2 ^ 23 - 1 := Nat.mod_lt _ (by omega)
    have e1 : Ieee.single.binade = 8388608 := by decide
    have e2 : Ieee.single.infRung = 2139095040 := by decide
    have e3 : Ieee.single.signWeight = 2147483648 := by decide
    have e : Question.cut (.nanBits .f32 x y) t % Ieee.single.signWeight = 0x7f800000 + 1 + (t / 2) % (2 ^ 23 - 1) := by rw [e3]; simp only [Question.cut]; omega
    simp only [FloatKind.format, Ieee.Format.read, e, e1, e2]
    rw [if_neg (by omega), if_neg (by omega), if_neg (by omega)]
    rfl
  · have h1 : (t / 2) % (2 ^ 52 - 1) < 2 ^ 52 - 1 := Nat.mod_lt _ (by omega)
    have e1 : Ieee.double.binade = 4503599627370496 := by decide
    have e2 : Ieee.double.infRung = 9218868437227405312 := by decide
    have e3 : Ieee.double.signWeight = 9223372036854775808 := by decide
    have e : Question.cut (.nanBits .f64 x y) t % Ieee.double.signWeight = 0x7ff0000000000000 + 1 + (t / 2) % (2 ^ 52 - 1) := by rw [e3]; simp only [Question.cut]; omega
    simp only [FloatKind.format, Ieee.Format.read, e, e1, e2]
    rw [if_neg (by omega), if_neg (by omega), if_neg (by omega)]
    rfl
theorem fop_eq (op : BinOp) (k : FloatKind) (x y : Nat) : fop op k (nrm k x) (nrm k y) = floatBits op k x y := by
  unfold fop nrm
  by_cases h1 : (k.format.read x).isNaN = true
  · rw [floatBits_nan (.inl h1)]; simp [h1]
  · by_cases h2 : (k.format.read y).isNaN = true
    · rw [floatBits_nan (.inr h2)]; simp [h1, h2]
    · simp [h1, h2]
/-- one operation: its bits, but for which NaN; at most one draw -/
theorem run_fop {P : Program} (w : World) (op : BinOp) (t : TypeId) (k : FloatKind) (x y : Nat) (ho : op = .add ∨ op = .sub ∨ op = .mul ∨ op = .quo) :
    ∃ r n, (binOp op t (.float k x) (.float k y)).run P w = .ok (.float k r) (w.drewN n) ∧ nrm k r = fop op k (nrm k x) (nrm k y) := by
  rw [fop_eq]
  cases h : floatBits op k x y with
  | some r => exact ⟨r, 0, run_float_arith w op t k x y r h, by rw [nrm, floatBits_isNaN h]; rfl⟩
  | none =>
    refine ⟨Question.cut (.nanBits k x y) (w.tape w.drawn (.nanBits k x y)), 1, ?_, nan_cut k x y _⟩
    unfold floatBits at h
    rcases ho with rfl | rfl | rfl | rfl <;> simp only at h <;> simp [binOp, Op.floatArith, h, choose, Sem.run, Question.forced, World.drewN]
/-- a step of the walk: one operation on floats -/
theorem wpList_fop {P : Program} (w : World) {ops : Array Oper} {rest : List Oper} {o : Oper} {a : Act} {Q : Exit → Act → World → Prop}
    (hgd : o.guard = none) (op : BinOp) (x y : Operand) (t t' : TypeId) (ho : o.op = Op.binOp op t x y t') (k : FloatKind) (bx b2 : Nat) (hx : a.eval x = .float k bx) (hy : a.eval y = .float k b2) (hop : op = .add ∨ op = .sub ∨ op = .mul ∨ op = .quo)
    (h : ∀ r n, nrm k r = fop op k (nrm k bx) (nrm k b2) → wpList P ops Q rest (a.put o.dst (.float k r)) (w.drewN n)) : wpList P ops Q (o :: rest) a w := by
  refine wpList_plain hgd fun K hK' => ?_
  obtain ⟨r, n, hr, hn⟩ := run_fop (P := P) w op t k bx b2 hop
  have hh := hK' _ _ (h r n hn)
  unfold Oper.wp
  rcases hop with rfl | rfl | rfl | rfl <;> simp [execOp, ho, hx, hy, hr, eqGuard, Result.andThen, Oper.upon] <;> exact hh
theorem order_nan {k : FloatKind} {a b : Nat} (h : (k.format.read a).isNaN = true ∨ (k.format.read b).isNaN = true) : k.format.order a b = none := by
  unfold Ieee.Format.order
  generalize k.format.read a = x at *
  generalize k.format.read b = y at *
  cases x <;> cases y <;> simp [Ieee.Datum.isNaN, Ieee.Datum.order] at *
theorem nrm_none {k : FloatKind} {a : Nat} (h : nrm k a = none) : (k.format.read a).isNaN = true := by
  unfold nrm at h; split at h
  · assumption
  · cases h
theorem nrm_some {k : FloatKind} {a b : Nat} (h : nrm k a = some b) : a = b ∧ (k.format.read b).isNaN = false := by
  unfold nrm at h; split at h
  · cases h
  · rename_i h1; cases h; exact ⟨rfl, by simpa using h1⟩
theorem order_congr {k : FloatKind} {a b : Nat} (h : nrm k a = nrm k b) (z : Nat) : k.format.order a z = k.format.order b z := by
  cases e : nrm k b with
  | none => rw [order_nan (.inl (nrm_none (h.trans e))), order_nan (.inl (nrm_none e))]
  | some c => rw [(nrm_some (h.trans e)).1, (nrm_some e).1]
theorem order_refl {k : FloatKind} {a : Nat} (h : (k.format.read a).isNaN = false) : k.format.order a a = some .eq := by
  unfold Ieee.Format.order
  generalize k.format.read a = x at *
  cases x with
  | number s m i => simp [Ieee.Datum.order, compare, compareOfLessAndEq]
  | infinity s => simp [Ieee.Datum.order, compare, compareOfLessAndEq]
  | nan s f => simp [Ieee.Datum.isNaN] at h
theorem nrm_ofInt (k : FloatKind) (n : Int) : nrm k (floatOfInt k n) = some (floatOfInt k n) := by
  rw [nrm, if_neg]
  have := nearest_isNaN k.format (decide (n < 0)) n.natAbs 0
  simp only [floatOfInt, FloatKind.nearest, FloatKind.encode, Ieee.Format.write] at *
  simp [this]
end Go.Proofs.Ytkdjeneogclocaa
