/- Green waves: what both programs compute, as one function. -/
import Derived.Test.YtpnbjfhcnjdohaaProg
import Derived.Test.YtpnbjfhcnjdohaaGreenN
import Derived.Test.YtpnbjfhcnjdohaaFlows2
import Derived.Test.YtpnbjfhcnjdohaaWords
namespace Go.Proofs.Ytpnbjfhcnjdohaa
open Go.RowKit Plain
open Ieee
set_option linter.unusedVariables false
set_option linter.unusedSimpArgs false
attribute [local go_sem ↓] Go.wp_at_zero Go.wp_at_succ
/-- finite and above 0 -/
def upB (a : Nat) : Bool := finB (nrm .f32 a) && FloatKind.f32.format.order a 0 == some .gt
/-- from 0 to 1 -/
def unitB (c : Nat) : Bool := (FloatKind.f32.format.order c 0 == some .gt || FloatKind.f32.format.order c 0 == some .eq) && (FloatKind.f32.format.order c 1065353216 == some .lt || FloatKind.f32.format.order c 1065353216 == some .eq)
def longW (s c : Nat) : Nat := (single.mul s c).getD 0
def quoW (L p : Nat) : Nat := (single.div p L).getD 0
def okQ (L p : Nat) : Bool := match single.div p L with | some q => FloatKind.f32.format.order q 1232348160 == some .lt | none => false
def markW (n q : Nat) : Nat := if FloatKind.f32.format.order (mW n q) 1065353216 = some .eq then 0 else mW n q
def lowW (f : Nat → Nat) : Nat → Nat
  | 0 => 0
  | k + 1 => if k = 0 then f 0 else if FloatKind.f32.format.order (lowW f k) (f k) = some .gt then f k else lowW f k
def highW (f : Nat → Nat) : Nat → Nat
  | 0 => 0
  | k + 1 => if k = 0 then f 0 else if FloatKind.f32.format.order (highW f k) (f k) = some .lt then f k else highW f k
def bandW (g lo hi : Nat) : Nat := if FloatKind.f32.format.order ((single.sub g ((single.sub hi lo).getD 0)).getD 0) 0 = some .lt then 0 else (single.sub g ((single.sub hi lo).getD 0)).getD 0
def faultW (L n : Nat) (xs : List Nat) (k : Nat) : Nat := eW n (quoW L (xs.getD k 0))
def marksW (L n : Nat) (xs : List Nat) (k : Nat) : List Nat := (List.range k).map fun j => markW n (quoW L (xs.getD j 0))
def waveB (xs : List Nat) (s c g : Nat) (n : Int) : Bool := flowsB xs && (upB s && (upB c && (unitB g && (inR n 1 100 && xs.all (okQ (longW s c))))))
def waveM (xs : List Nat) (s c g : Nat) (n : Int) : List Nat × Nat × Bool :=
  if waveB xs s c g n then (marksW (longW s c) n.toNat xs xs.length, bandW g (lowW (faultW (longW s c) n.toNat xs) xs.length) (highW (faultW (longW s c) n.toNat xs) xs.length), true) else ([], 0, false)
theorem wave_no {xs : List Nat} {s c g : Nat} {n : Int} (h : waveB xs s c g n = false) : waveM xs s c g n = ([], 0, false) := by rw [waveM, h]; rfl
theorem wave_len (xs : List Nat) (s c g : Nat) (n : Int) : (waveM xs s c g n).1.length ≤ xs.length := by
  unfold waveM
  split
  · simp [marksW]
  · simp
theorem marks_snoc (L n : Nat) (xs : List Nat) (k : Nat) : marksW L n xs (k + 1) = marksW L n xs k ++ [markW n (quoW L (xs.getD k 0))] := by simp [marksW, List.range_succ]
theorem marks_len (L n : Nat) (xs : List Nat) (k : Nat) : (marksW L n xs k).length = k := by simp [marksW]
theorem okQ_no {L : Nat} {xs : List Nat} {k : Nat} (hk : k < xs.length) (h : okQ L (xs.getD k 0) = false) : xs.all (okQ L) = false := by
  rw [List.all_eq_false]
  refine ⟨xs.getD k 0, ?_, by rw [h]; simp⟩
  rw [List.getD_eq_getElem?_getD, List.getElem?_eq_getElem hk]
  exact List.getElem_mem hk
theorem okQ_yes {L : Nat} {xs : List Nat} (h : ∀ k, k < xs.length → okQ L (xs.getD k 0) = true) : xs.all (okQ L) = true := by
  rw [List.all_eq_true]
  intro x hx
  obtain ⟨k, hk, rfl⟩ := List.getElem_of_mem hx
  have := h k hk
  rw [List.getD_eq_getElem?_getD, List.getElem?_eq_getElem hk] at this
  exact this
theorem fin_not_inf {a : Nat} (h : finB (nrm .f32 a) = true) : (single.read a).isInfinity = false := by
  have hn := finB_num h
  rw [show FloatKind.f32.format = single from rfl] at hn
  cases hr : single.read a with
  | number s m i => rfl
  | nan s f => rw [hr] at hn; cases hn
  | infinity s =>
    exfalso
    rw [finB, fop_eq] at h
    have e : floatBits .sub .f32 a a = none := by
      show single.sub a a = none
      unfold Format.sub
      rw [hr]
      cases s <;> rfl
    rw [e] at h
    cases h
/-- the length of a cycle on the road -/
theorem long_at {s c : Nat} (ws : (Lit.float .f32 s).wf = true) (wc : (Lit.float .f32 c).wf = true) (hs : upB s = true) (hc : upB c = true) : floatBits .mul .f32 s c = some (longW s c) ∧ longW s c ≤ single.infRung := by
  rw [upB, Bool.and_eq_true] at hs hc
  have w1 : s < 4294967296 := by simpa [Lit.wf] using ws
  have w2 : c < 4294967296 := by simpa [Lit.wf] using wc
  have g1 : FloatKind.f32.format.order s 0 = some .gt := by simpa using hs.2
  have g2 : FloatKind.f32.format.order c 0 = some .gt := by simpa using hc.2
  obtain ⟨L, h1, h2⟩ := mul_le (word_pos w1 (finB_num hs.1) (fin_not_inf hs.1) g1) (word_pos w2 (finB_num hc.1) (fin_not_inf hc.1) g2)
  have e : longW s c = L := by rw [longW, h1]; rfl
  rw [e]
  exact ⟨h1, h2⟩
/-- a place that is taken -/
theorem place_ok {L p : Nat} (wp : (Lit.float .f32 p).wf = true) (hL : L ≤ single.infRung) (hf : finB (nrm .f32 p) = true) (hg : geB p = true) (h : okQ L p = true) : floatBits .quo .f32 p L = some (quoW L p) ∧ QOk (quoW L p) ∧ FloatKind.f32.format.order (quoW L p) 1232348160 = some .lt := by
  have w1 : p < 4294967296 := by simpa [Lit.wf] using wp
  obtain ⟨s, m, i, h1, h2⟩ := word_ge w1 (finB_num hf) (fin_not_inf hf) (geB_t hg)
  rw [okQ] at h
  cases hd : single.div p L with
  | none => rw [hd] at h; cases h
  | some q =>
    rw [hd] at h
    have h3 : FloatKind.f32.format.order q 1232348160 = some .lt := by simpa using h
    have e : quoW L p = q := by rw [quoW, hd]; rfl
    rw [e]
    exact ⟨hd, quo_ok h1 h2 hL hd h3, h3⟩
theorem place_no {L p r : Nat} (h : okQ L p = false) (hr : nrm .f32 r = fop .quo .f32 (nrm .f32 p) (nrm .f32 L)) : (FloatKind.f32.format.order r 1232348160 == some .lt) = false := by
  rw [fop_eq] at hr
  rw [okQ] at h
  have e : floatBits .quo .f32 p L = single.div p L := rfl
  rw [e] at hr
  cases hd : single.div p L with
  | none => rw [hd] at hr; rw [order_nan (.inl (nrm_none hr))]; rfl
  | some q =>
    rw [hd] at hr h
    rw [(nrm_some hr).1]
    exact h
theorem low_nw {f : Nat → Nat} {k : Nat} (h : ∀ j, j < k → NW (f j)) (hk : 1 ≤ k) : NW (lowW f k) := by
  induction k with
  | zero => omega
  | succ k ih =>
    rw [lowW]
    split
    · exact h 0 (by omega)
    · split
      · exact h k (by omega)
      · exact ih (fun j hj => h j (by omega)) (by omega)
theorem high_nw {f : Nat → Nat} {k : Nat} (h : ∀ j, j < k → NW (f j)) (hk : 1 ≤ k) : NW (highW f k) := by
  induction k with
  | zero => omega
  | succ k ih =>
    rw [highW]
    split
    · exact h 0 (by omega)
    · split
      · exact h k (by omega)
      · exact ih (fun j hj => h j (by omega)) (by omega)
theorem nw_num {e : Nat} (h : NW e) : ∃ s m i, single.read e = .number s m i := by
  obtain ⟨s, r, h1, _, rfl⟩ := h
  obtain ⟨K, L, e1, _⟩ := read_signed s h1
  exact ⟨_, _, _, e1⟩
/-- the band: a difference of numbers, and that from the green -/
theorem band_at {g lo hi : Nat} (hg : unitB g = true) (hf : finB (nrm .f32 g) = true) (hl : NW lo) (hh : NW hi) : ∃ d b, floatBits .sub .f32 hi lo = some d ∧ floatBits .sub .f32 g d = some b ∧ bandW g lo hi = (if FloatKind.f32.format.order b 0 = some .lt then 0 else b) ∧ (single.read b).isNaN = false ∧
    (single.read (bandW g lo hi)).isNaN = false := by
  obtain ⟨s, m, i, h1⟩ := nw_num hl
  obtain ⟨t, n, j, h2⟩ := nw_num hh
  have h3 : ∃ d, single.sub hi lo = some d := by unfold Format.sub; rw [h1, h2]; exact ⟨_, rfl⟩
  obtain ⟨d, hd⟩ := h3
  have hdn : (single.read d).isNaN = false := floatBits_isNaN (op := .sub) (k := .f32) (x := hi) (y := lo) hd
  have hgn := finB_num hf
  have hgi := fin_not_inf hf
  rw [show FloatKind.f32.format = single from rfl] at hgn
  have h4 : ∃ b, single.sub g d = some b := by
    unfold Format.sub
    cases hr : single.read g with
    | nan s f => rw [hr] at hgn; cases hgn
    | infinity s => rw [hr] at hgi; cases hgi
    | number s m i =>
      cases hr2 : single.read d with
      | nan s f => rw [hr2] at hdn; cases hdn
      | infinity s => exact ⟨_, rfl⟩
      | number s m i => exact ⟨_, rfl⟩
  obtain ⟨b, hb⟩ := h4
  have hbn : (single.read b).isNaN = false := floatBits_isNaN (op := .sub) (k := .f32) (x := g) (y := d) hb
  have e : bandW g lo hi = (if FloatKind.f32.format.order b 0 = some .lt then 0 else b) := by rw [bandW, hd]; simp only [Option.getD_some]; rw [hb]; rfl
  refine ⟨d, b, hd, hb, e, hbn, ?_⟩
  rw [e]
  split
  · decide
  · exact hbn
/-- the unit is finite -/
theorem unit_fin {g : Nat} (h : unitB g = true) : finB (nrm .f32 g) = true := by
  have hn : (single.read g).isNaN = false := by
    cases hr : single.read g with
    | nan s f =>
      have e : FloatKind.f32.format.order g 0 = none := order_nan (.inl (by show (single.read g).isNaN = true; rw [hr]; rfl))
      rw [unitB, e] at h
      cases h
    | number s m i => rfl
    | infinity s => rfl
  have e1 : nrm .f32 g = some g := by rw [nrm, show FloatKind.f32.format = single from rfl, hn]; rfl
  rw [finB, fop_eq]
  cases hr : single.read g with
  | nan s f => rw [hr] at hn; cases hn
  | infinity s =>
    exfalso
    have k0 : single.read 0 = .number false 0 (-149) := by decide
    have k1 : single.read 1065353216 = .number false 8388608 (-23) := by decide
    rw [unitB, show FloatKind.f32.format = single from rfl, Format.order, Format.order, hr, k0, k1] at h
    cases s <;> simp [Datum.order] at h
  | number s m i =>
    have e : floatBits .sub .f32 g g = some (single.nearest false 0 i) := by
      show single.sub g g = _
      unfold Format.sub
      rw [hr]
      have : Datum.sum (.number s m i) (Datum.opposite (.number s m i)) = some (.number false 0 i) := by
        simp only [Datum.sum, Datum.opposite, Int.min_self, Int.sub_self]
        have : signed s m (0 : Int).toNat + signed (!s) m (0 : Int).toNat = 0 := by cases s <;> simp [signed] <;> omega
        rw [this, if_pos rfl]
        cases s <;> rfl
      rw [this]
      rfl
    rw [e, near_zero, word_false]
    decide
end Go.Proofs.Ytpnbjfhcnjdohaa
