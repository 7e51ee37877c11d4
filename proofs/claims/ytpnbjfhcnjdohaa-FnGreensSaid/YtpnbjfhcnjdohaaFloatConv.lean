/- float32 to float64: never an overflow. -/
import Derived.Test.YtpnbjfhcnjdohaaFloats
namespace Go.Proofs.Ytpnbjfhcnjdohaa
open Go.RowKit
set_option linter.unusedVariables false
set_option linter.unusedSimpArgs false

theorem read_word_num (f : Ieee.Format) (neg : Bool) (r : Nat) (h : r < f.infRung) : (f.read (f.word neg r)).isInfinity = false := by
  have hlt := f.infRung_lt
  have hr : r < f.signWeight := by omega
  have hm : f.word neg r % f.signWeight = r := by
    unfold Ieee.Format.word
    cases neg
    · simpa using Nat.mod_eq_of_lt hr
    · simpa using Nat.mod_eq_of_lt hr
  unfold Ieee.Format.read
  simp only [hm]
  by_cases h1 : r < f.binade
  · simp [h1, Ieee.Datum.isInfinity]
  · simp [h1, h, Ieee.Datum.isInfinity]
theorem cut_zero (way : Ieee.Toward) (neg : Bool) (n : Nat) : way.cut neg n 0 = n := by
  unfold Ieee.Toward.cut
  have e : (1 : Nat) <<< min 0 (n.log2 + 2) = 1 := by simp
  simp only [e, Nat.div_one, Nat.mod_one]
  cases way <;> simp
theorem single_num {b : Nat} {s : Bool} {m : Nat} {e : Int} (h : Ieee.single.read b = .number s m e) : m < 2 ^ 24 ∧ -149 ≤ e ∧ e ≤ 104 := by
  have e1 : Ieee.single.binade = 8388608 := by decide
  have e2 : Ieee.single.infRung = 2139095040 := by decide
  have e3 : Ieee.single.leastPlace = -149 := by decide
  unfold Ieee.Format.read at h
  simp only [e1, e2, e3] at h
  generalize b % Ieee.single.signWeight = r at h
  split at h
  · injection h with _ h2 h3; omega
  · split at h
    · injection h with _ h2 h3
      have := Nat.mod_lt r (show 0 < 8388608 by omega)
      have : r / 8388608 < 255 := by omega
      omega
    · split at h <;> cases h
theorem fits_sum {t k B : Nat} (h1 : t * B ≤ 1149 * B) (h2 : k < 2 * B) (hB : 0 < B) : t * B + k < 2047 * B := by omega
theorem two53 : (2 : Nat) ^ 53 = 2 * 2 ^ 52 := by rw [Nat.pow_succ, Nat.mul_comm]
theorem double_fits (s : Bool) (m : Nat) (e : Int) (hm : m < 2 ^ 24) (he : -149 ≤ e) (he2 : e ≤ 104) : (Ieee.double.read (Ieee.double.nearest s m e)).isInfinity = false := by
  have e1 : Ieee.double.binade = 2 ^ 52 := rfl
  have e2 : Ieee.double.infRung = 2047 * 2 ^ 52 := rfl
  have e3 : Ieee.double.leastPlace = -1074 := by decide
  have e4 : Ieee.double.fractionBits = 52 := rfl
  unfold Ieee.Format.nearest
  split
  · exact read_word_num _ _ _ (by rw [e2]; exact Nat.mul_pos (by decide) (Nat.two_pow_pos 52))
  · rename_i h0
    have hl : m.log2 < 24 := (Nat.log2_lt h0).2 hm
    dsimp only
    rw [e1, e3, e4]
    have hmax : max (e + (m.log2 : Int) - ((52 : Nat) : Int)) (-1074) = e + (m.log2 : Int) - 52 := by omega
    rw [hmax]
    have h1 : (e - (e + (m.log2 : Int) - 52)).toNat = 52 - m.log2 := by omega
    have h2 : (e + (m.log2 : Int) - 52 - e).toNat = 0 := by omega
    rw [h1, h2, cut_zero]
    have h3 : m <<< (52 - m.log2) < 2 ^ 53 := by
      rw [Nat.shiftLeft_eq]
      have := Nat.lt_log2_self (n := m)
      calc m * 2 ^ (52 - m.log2) < 2 ^ (m.log2 + 1) * 2 ^ (52 - m.log2) := Nat.mul_lt_mul_of_pos_right this (Nat.two_pow_pos _)
        _ = 2 ^ 53 := by rw [← Nat.pow_add]; congr 1; omega
    have h4 : (e + (m.log2 : Int) - 52 - -1074).toNat ≤ 1149 := by omega
    refine read_word_num _ _ _ ?_
    rw [e2]
    rw [two53] at h3
    generalize (e + (m.log2 : Int) - 52 - -1074).toNat = t at *
    generalize m <<< (52 - m.log2) = kk at *
    clear h1 h2 hmax hl h0 hm he he2
    exact Nat.lt_of_le_of_lt (Nat.min_le_left _ _) (fits_sum (Nat.mul_le_mul_right _ h4) h3 (Nat.two_pow_pos 52))
/-- float64(x) of a float32 -/
def cvF (m : Option Nat) : Option Nat := m.bind fun b => floatToFloatBits .f32 b .f64
theorem run_cv {P : Program} (w : World) (b : Nat) : ∃ r n, (Conv.floatToFloat .f32 b .f64).run P w = .ok (.float .f64 r) (w.drewN n) ∧ nrm .f64 r = cvF (nrm .f32 b) := by
  cases hd : Ieee.single.read b with
  | nan s f =>
    have hn : nrm .f32 b = none := by rw [nrm, if_pos]; simp [FloatKind.format, hd, Ieee.Datum.isNaN]
    refine ⟨Question.cut (.nanConv .f64 b) (w.tape w.drawn (.nanConv .f64 b)), 1, ?_, ?_⟩
    · simp [Conv.floatToFloat, FloatKind.decode, FloatKind.format, hd, choose, Sem.run, Question.forced, World.drewN]
    · rw [hn]
      exact nan_cut .f64 b b _
  | infinity s =>
    have hn : nrm .f32 b = some b := by rw [nrm, if_neg]; simp [FloatKind.format, hd, Ieee.Datum.isNaN]
    refine ⟨Ieee.double.write (.infinity s), 0, ?_, ?_⟩
    · simp [Conv.floatToFloat, FloatKind.decode, FloatKind.encode, FloatKind.format, hd, World.drewN]
    · rw [hn, nrm, if_neg (by rw [show FloatKind.f64.format = Ieee.double from rfl, write_isNaN _ _ rfl]; simp)]
      simp [cvF, floatToFloatBits, FloatKind.decode, FloatKind.encode, FloatKind.format, hd]
  | number s m e =>
    obtain ⟨h1, h2, h3⟩ := single_num hd
    have hi := double_fits s m e h1 h2 h3
    have hn : nrm .f32 b = some b := by rw [nrm, if_neg]; simp [FloatKind.format, hd, Ieee.Datum.isNaN]
    have hi' : (Ieee.double.read (Ieee.double.write (.number s m e))).isInfinity = false := hi
    refine ⟨Ieee.double.write (.number s m e), 0, ?_, ?_⟩
    · simp [Conv.floatToFloat, FloatKind.decode, FloatKind.encode, FloatKind.format, hd, hi', World.drewN]
    · rw [hn, nrm, if_neg (by rw [show FloatKind.f64.format = Ieee.double from rfl, write_isNaN _ _ rfl]; simp)]
      simp [cvF, floatToFloatBits, FloatKind.decode, FloatKind.encode, FloatKind.format, hd, hi']
theorem run_convert_cv {P : Program} (w : World) (src dst : TypeId) (b : Nat) (hs : P.underlying src = some (.float .f32)) (hd : P.underlying dst = some (.float .f64)) :
    ∃ r n, (convert src dst (.float .f32 b)).run P w = .ok (.float .f64 r) (w.drewN n) ∧ nrm .f64 r = cvF (nrm .f32 b) := by
  obtain ⟨r, n, h1, h2⟩ := run_cv (P := P) w b
  exact ⟨r, n, by simp [convert, run_underlying hs, run_underlying hd, h1], h2⟩
theorem wpList_cv {P : Program} (w : World) {ops : Array Oper} {rest : List Oper} {o : Oper} {a : Act} {Q : Exit → Act → World → Prop}
    (hgd : o.guard = none) (x : Operand) (src dst : TypeId) (ho : o.op = Op.convert src dst x) (b : Nat) (hx : a.eval x = .float .f32 b) (hs : P.underlying src = some (.float .f32)) (hd : P.underlying dst = some (.float .f64))
    (h : ∀ r n, nrm .f64 r = cvF (nrm .f32 b) → wpList P ops Q rest (a.put o.dst (.float .f64 r)) (w.drewN n)) : wpList P ops Q (o :: rest) a w := by
  refine wpList_plain hgd fun K hK' => ?_
  obtain ⟨r, n, hr, hn⟩ := run_convert_cv (P := P) w src dst b hs hd
  have hh := hK' _ _ (h r n hn)
  unfold Oper.wp
  simp [execOp, ho, hx, hr, Result.andThen, Oper.upon]
  exact hh
/-- the same as a step of a region that draws its order -/
theorem step_cv {P : Program} {ops : Array Oper} {o : Oper} {a : Act} {w : World} {K : Act → World → Prop} {Q : Exit → Act → World → Prop} {E : Prop}
    (hgd : o.guard = none) (x : Operand) (src dst : TypeId) (ho : o.op = Op.convert src dst x) (b : Nat) (hx : a.eval x = .float .f32 b) (hs : P.underlying src = some (.float .f32)) (hd : P.underlying dst = some (.float .f64))
    (h : ∀ r n, nrm .f64 r = cvF (nrm .f32 b) → K (a.put o.dst (.float .f64 r)) (w.drewN n)) : if Region.wanted o (yielded ops a.tmps) = true then Oper.wp P o a w K Q else E := by
  have hw : Region.wanted o (yielded ops a.tmps) = true := by simp [Region.wanted, hgd]
  rw [if_pos hw]
  obtain ⟨r, n, hr, hn⟩ := run_convert_cv (P := P) w src dst b hs hd
  have hh := h r n hn
  unfold Oper.wp
  simp [execOp, ho, hx, hr, Result.andThen, Oper.upon]
  exact hh
theorem upon_cv {P : Program} {o : Oper} {a : Act} {w : World} {K : Act → World → Prop} {Q : Exit → Act → World → Prop}
    (src dst : TypeId) (b : Nat) (hs : P.underlying src = some (.float .f32)) (hd : P.underlying dst = some (.float .f64))
    (h : ∀ r n, nrm .f64 r = cvF (nrm .f32 b) → K (a.put o.dst (.float .f64 r)) (w.drewN n)) : Oper.upon P o a K Q ((Sem.run P (convert src dst (.float .f32 b)) w).andThen fun v w' => Result.ok (Next.value v) w') := by
  obtain ⟨r, n, hr, hn⟩ := run_convert_cv (P := P) w src dst b hs hd
  have hh := h r n hn
  simp [hr, Result.andThen, Oper.upon]
  exact hh
/-- as 'wpList_fop', of an operation under a guard that holds -/
theorem wpList_fopG {P : Program} (w : World) {ops : Array Oper} {rest : List Oper} {o : Oper} {a : Act} {Q : Exit → Act → World → Prop}
    (hgd : Region.wanted o (yielded ops a.tmps) = true) (op : BinOp) (x y : Operand) (t t' : TypeId) (ho : o.op = Op.binOp op t x y t') (k : FloatKind) (bx b2 : Nat) (hx : a.eval x = .float k bx) (hy : a.eval y = .float k b2) (hop : op = .add ∨ op = .sub ∨ op = .mul ∨ op = .quo)
    (h : ∀ r n, nrm k r = fop op k (nrm k bx) (nrm k b2) → wpList P ops Q rest (a.put o.dst (.float k r)) (w.drewN n)) : wpList P ops Q (o :: rest) a w := by
  refine wpList_step fun K hK' => ?_
  rw [if_pos hgd]
  obtain ⟨r, n, hr, hn⟩ := run_fop (P := P) w op t k bx b2 hop
  have hh := hK' _ _ (h r n hn)
  unfold Oper.wp
  rcases hop with rfl | rfl | rfl | rfl <;> simp [execOp, ho, hx, hy, hr, eqGuard, Result.andThen, Oper.upon] <;> exact hh
/-- which NaN it is -/
def nanOf (b : Nat) (w : World) : Nat := Question.cut (.nanConv .f64 b) (w.tape w.drawn (.nanConv .f64 b))
theorem nanOf_none (b : Nat) (w : World) : nrm .f64 (nanOf b w) = none := nan_cut .f64 b b _
theorem conv_nan {P : Program} (src dst : TypeId) (b : Nat) (hs : P.underlying src = some (.float .f32)) (hd : P.underlying dst = some (.float .f64)) (h : nrm .f32 b = none) (w : World) :
    (convert src dst (.float .f32 b)).run P w = .ok (.float .f64 (nanOf b w)) (w.drewN 1) := by
  have hn := nrm_none h
  cases hd' : Ieee.single.read b with
  | nan s f => simp [convert, run_underlying hs, run_underlying hd, Conv.floatToFloat, FloatKind.decode, FloatKind.format, hd', choose, Sem.run, Question.forced, nanOf, World.drewN]
  | infinity s => rw [show FloatKind.f32.format = Ieee.single from rfl, hd'] at hn; cases hn
  | number s m e => rw [show FloatKind.f32.format = Ieee.single from rfl, hd'] at hn; cases hn
theorem conv_num {P : Program} (w0 : World) (src dst : TypeId) (b : Nat) (hs : P.underlying src = some (.float .f32)) (hd : P.underlying dst = some (.float .f64)) (h : nrm .f32 b = some b) :
    ∃ r, nrm .f64 r = cvF (some b) ∧ ∀ w : World, (convert src dst (.float .f32 b)).run P w = .ok (.float .f64 r) w := by
  have hn := (nrm_some h).2
  have hx : ∃ r, floatToFloatBits .f32 b .f64 = some r := by
    cases hd' : Ieee.single.read b with
    | nan s f => rw [show FloatKind.f32.format = Ieee.single from rfl, hd'] at hn; cases hn
    | infinity s => exact ⟨_, by simp [floatToFloatBits, FloatKind.decode, FloatKind.encode, FloatKind.format, hd']; rfl⟩
    | number s m e =>
      obtain ⟨h1, h2, h3⟩ := single_num hd'
      have hi := double_fits s m e h1 h2 h3
      have hi' : (Ieee.double.read (Ieee.double.write (.number s m e))).isInfinity = false := hi
      exact ⟨_, by simp [floatToFloatBits, FloatKind.decode, FloatKind.encode, FloatKind.format, hd', hi']; rfl⟩
  obtain ⟨r, hr⟩ := hx
  refine ⟨r, ?_, fun w => run_convert_float_float w src dst .f32 .f64 b r (by rw [hs]; rfl) hd hr⟩
  obtain ⟨r', n, h1, h2⟩ := run_convert_cv (P := P) w0 src dst b hs hd
  rw [run_convert_float_float _ src dst .f32 .f64 b r (by rw [hs]; rfl) hd hr] at h1
  injection h1 with h1 _
  injection h1 with _ h1
  subst h1
  rw [h2, h]
end Go.Proofs.Ytpnbjfhcnjdohaa
