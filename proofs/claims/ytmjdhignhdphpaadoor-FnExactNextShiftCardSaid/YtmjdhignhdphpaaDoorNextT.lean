/- Whether a text is a shift, and which shift comes next, in plain lists. No program stands here. -/
import Derived.Test.YtmjdhignhdphpaaDoorGreedT
namespace Go.Proofs.YtmjdhignhdphpaaDoor.Plain

/-- one slot -/
def stepS (L : ShiftLim) (s : ShiftPt) (c : Int) : Option ShiftPt := if c = 119 then (if s.may L then some s.on else none) else some (s.off L)
/-- the place behind the first k slots of a text -/
def runS (L : ShiftLim) (t : ByteArray) : Nat → Option ShiftPt
  | 0 => some ShiftPt.start
  | k + 1 => (runS L t k).bind fun s => stepS L s (cod t k)
def letOk (c : UInt8) : Bool := c == 119 || c == 46
def letB (t : ByteArray) : Bool := t.data.toList.all letOk
def endB (L : ShiftLim) (p : Option ShiftPt) : Bool := match p with
  | none => false
  | some s => decide (L.least ≤ s.w)
def isS (L : ShiftLim) (S : Int) (t : ByteArray) : Bool := decide ((t.size : Int) = S) && (letB t && endB L (runS L t t.size))
theorem run_none {L : ShiftLim} {t : ByteArray} {k : Nat} (h : runS L t k = none) (n : Nat) (hn : k ≤ n) : runS L t n = none := by
  induction n with
  | zero => have : k = 0 := by omega
            subst this; exact h
  | succ n ih =>
    by_cases e : k = n + 1
    · subst e; exact h
    · rw [runS, ih (by omega)]; rfl
theorem run_succ {L : ShiftLim} {t : ByteArray} {k : Nat} {s : ShiftPt} (h : runS L t k = some s) : runS L t (k + 1) = stepS L s (cod t k) := by rw [runS, h]; rfl
theorem step_w {L : ShiftLim} {s : ShiftPt} (h : s.may L = true) : stepS L s 119 = some s.on := by rw [stepS, if_pos rfl, h]; rfl
theorem step_no {L : ShiftLim} {s : ShiftPt} (h : s.may L = false) : stepS L s 119 = none := by rw [stepS, if_pos rfl, h]; rfl
theorem step_f {L : ShiftLim} {s : ShiftPt} {c : Int} (h : c ≠ 119) : stepS L s c = some (s.off L) := by rw [stepS, if_neg h]
theorem let_bad {t : ByteArray} {k : Nat} (hk : k < t.size) (h1 : cod t k ≠ 119) (h2 : cod t k ≠ 46) : letB t = false := by
  have hk2 : k < t.data.toList.length := by simpa using hk
  refine all_false (k := k) hk2 ?_
  have e : cod t k = (t.data.toList[k].toNat : Int) := by rw [cod, List.getD_eq_getElem?_getD, List.getElem?_eq_getElem hk2]; rfl
  rw [e] at h1 h2
  generalize t.data.toList[k] = c at *
  simp only [letOk, Bool.or_eq_false_iff, beq_eq_false_iff_ne]
  exact ⟨fun h => h1 (by rw [h]; rfl), fun h => h2 (by rw [h]; rfl)⟩
theorem let_good {t : ByteArray} (h : letB t = true) {k : Nat} (hk : k < t.size) : cod t k = 119 ∨ cod t k = 46 := by
  have hk2 : k < t.data.toList.length := by simpa using hk
  have := List.all_eq_true.1 h _ (List.getElem_mem hk2)
  have e : cod t k = (t.data.toList[k].toNat : Int) := by rw [cod, List.getD_eq_getElem?_getD, List.getElem?_eq_getElem hk2]; rfl
  rw [e]
  simp only [letOk, Bool.or_eq_true, beq_iff_eq] at this
  rcases this with h | h <;> rw [h]
  · exact .inl rfl
  · exact .inr rfl
theorem let_all {t : ByteArray} (h : ∀ k, k < t.size → cod t k = 119 ∨ cod t k = 46) : letB t = true := by
  cases hb : letB t with
  | true => rfl
  | false =>
    exfalso
    unfold letB at hb
    rw [List.all_eq_false] at hb
    obtain ⟨x, hx, hn⟩ := hb
    obtain ⟨k, hk, rfl⟩ := List.getElem_of_mem hx
    have e : cod t k = (t.data.toList[k].toNat : Int) := by rw [cod, List.getD_eq_getElem?_getD, List.getElem?_eq_getElem hk]; rfl
    have := h k (by simpa using hk)
    rw [e] at this
    apply hn
    generalize t.data.toList[k] = c at *
    simp only [letOk, Bool.or_eq_true, beq_iff_eq]
    rcases this with h | h
    · exact .inl (UInt8.toNat_inj.1 (by have : c.toNat = 119 := by omega
                                        rw [this]; rfl))
    · exact .inr (UInt8.toNat_inj.1 (by have : c.toNat = 46 := by omega
                                        rw [this]; rfl))
theorem letter_at {t : ByteArray} {k : Nat} (hk : k < t.size) : ∃ q : Nat, (t[k]'hk).toNat = q ∧ cod t k = q := ⟨_, rfl, cod_at hk⟩
theorem isS_len {L : ShiftLim} {S : Int} {t : ByteArray} (h : ¬ (t.size : Int) = S) : isS L S t = false := by rw [isS, decide_eq_false h]; rfl
theorem isS_let {L : ShiftLim} {S : Int} {t : ByteArray} (h : letB t = false) : isS L S t = false := by rw [isS, h, Bool.false_and, Bool.and_false]
theorem isS_run {L : ShiftLim} {S : Int} {t : ByteArray} (h : runS L t t.size = none) : isS L S t = false := by rw [isS, h, endB, Bool.and_false, Bool.and_false]
theorem isS_end {L : ShiftLim} {S : Int} {t : ByteArray} {s : ShiftPt} (h1 : (t.size : Int) = S) (h2 : letB t = true) (h3 : runS L t t.size = some s) : isS L S t = decide (L.least ≤ s.w) := by rw [isS, decide_eq_true h1, h2, h3]; rfl
end Go.Proofs.YtmjdhignhdphpaaDoor.Plain
