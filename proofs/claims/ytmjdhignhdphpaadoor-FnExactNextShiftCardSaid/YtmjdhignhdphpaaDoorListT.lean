/- Shifts listed, in plain lists: who works as soon as it may works most of all. No program stands here. -/
import Derived.Test.YtmjdhignhdphpaaDoorShiftT
namespace Go.Proofs.YtmjdhignhdphpaaDoor.Plain

/-- the shifts behind a beginning, in their order -/
def listS (L : ShiftLim) : Nat → ShiftPt → ByteArray → List ByteArray
  | 0, s, t => if L.least ≤ s.w then [t] else []
  | m + 1, s, t => listS L m (s.off L) (t ++ ⟨#[46]⟩) ++ if s.may L then listS L m s.on (t ++ ⟨#[119]⟩) else []
theorem listS_len (L : ShiftLim) (m : Nat) : ∀ (s : ShiftPt) (t : ByteArray), (listS L m s t).length = cS L m s := by
  induction m with
  | zero => intro s t; rw [listS, cS]; split <;> rfl
  | succ m ih =>
    intro s t
    rw [listS, cS, List.length_append, ih]
    split
    · rw [ih]
    · rfl
theorem listS_nil {L : ShiftLim} {m : Nat} {s : ShiftPt} {t : ByteArray} (h : cS L m s = 0) : listS L m s t = [] := List.eq_nil_of_length_eq_zero (by rw [listS_len, h])
/-- a list filled up to c -/
def fillS (c : Nat) (o l : List ByteArray) : List ByteArray := (o ++ l).take c
theorem fill_full {c : Nat} {o l : List ByteArray} (h : o.length = c) : fillS c o l = o := by rw [fillS, ← h, List.take_left]
theorem fill_nil {c : Nat} {o : List ByteArray} (h : o.length ≤ c) : fillS c o [] = o := by rw [fillS, List.append_nil, List.take_of_length_le h]
theorem fill_one {c : Nat} {o : List ByteArray} {t : ByteArray} (h : o.length < c) : fillS c o [t] = o ++ [t] := by rw [fillS, List.take_of_length_le (by simp; omega)]
theorem fill_app {c : Nat} {o l m : List ByteArray} : fillS c (fillS c o l) m = fillS c o (l ++ m) := by
  unfold fillS
  rw [← List.append_assoc]
  generalize o ++ l = x
  rw [List.take_append, List.take_append, List.take_take, Nat.min_self]
  congr 1
  rw [List.length_take]
  by_cases h : c ≤ x.length
  · rw [Nat.min_eq_left h, Nat.sub_self, show c - x.length = 0 by omega]
  · rw [Nat.min_eq_right (by omega)]
theorem fill_len {c : Nat} {o l : List ByteArray} : (fillS c o l).length ≤ c := by rw [fillS, List.length_take]; omega

/-! ## the reference's places: free slots are counted on -/
def ShiftPt.offR (s : ShiftPt) : ShiftPt := ⟨s.w, 0, if 0 ≤ s.f then s.f + 1 else s.f⟩
def ShiftPt.cut (L : ShiftLim) (s : ShiftPt) : ShiftPt := ⟨s.w, s.r, if 0 ≤ s.f then min s.f L.pause else s.f⟩
theorem cut_off {L : ShiftLim} (h : 1 ≤ L.pause) (s : ShiftPt) : s.offR.cut L = (s.cut L).off L := by
  simp only [ShiftPt.offR, ShiftPt.cut, ShiftPt.off, ShiftPt.mk.injEq, true_and]
  by_cases h0 : 0 ≤ s.f
  · simp only [if_pos h0]
    rw [if_pos (by omega), if_pos (by omega)]
    omega
  · simp only [if_neg h0]
theorem cut_on {L : ShiftLim} (h : 1 ≤ L.pause) (s : ShiftPt) : s.on.cut L = (s.cut L).on := by
  show (⟨s.w + 1, s.r + 1, if 0 ≤ (0 : Int) then min 0 L.pause else 0⟩ : ShiftPt) = ⟨s.w + 1, s.r + 1, 0⟩
  rw [if_pos (Int.le_refl 0), Int.min_eq_left (by omega)]
theorem cut_may {L : ShiftLim} (h : 1 ≤ L.pause) (s : ShiftPt) : (s.cut L).may L = s.may L := by
  rw [Bool.eq_iff_iff, may_iff, may_iff]
  simp only [ShiftPt.cut]
  split <;> omega
theorem cut_start (L : ShiftLim) : ShiftPt.start.cut L = ShiftPt.start := rfl
/-- how many slots are worked by who works as soon as it may -/
def reachS (L : ShiftLim) : Nat → ShiftPt → Nat
  | 0, _ => 0
  | m + 1, s => if s.may L then 1 + reachS L m s.on else reachS L m s.offR
theorem reach_le (L : ShiftLim) (m : Nat) : ∀ s, reachS L m s ≤ m := by
  induction m with
  | zero => intro s; exact Nat.le_refl _
  | succ m ih =>
    intro s
    rw [reachS]
    split
    · have := ih s.on; omega
    · have := ih s.offR; omega
/-- the same without the most: n slots to rest ahead, then c to work -/
def grS (R P : Nat) : Nat → Nat → Nat → Nat
  | 0, _, _ => 0
  | m + 1, n + 1, c => grS R P m n c
  | m + 1, 0, c => 1 + if c ≤ 1 then grS R P m P R else grS R P m 0 (c - 1)
theorem gr_0 (R P n c : Nat) : grS R P 0 n c = 0 := by rw [grS]
theorem gr_n (R P m n c : Nat) : grS R P (m + 1) (n + 1) c = grS R P m n c := by rw [grS]
theorem gr_w (R P m c : Nat) : grS R P (m + 1) 0 c = 1 + if c ≤ 1 then grS R P m P R else grS R P m 0 (c - 1) := by rw [grS]
theorem gr_mono (R P m : Nat) : ∀ n c, grS R P m n c ≤ grS R P (m + 1) n c := by
  induction m with
  | zero => intro n c; rw [gr_0]; exact Nat.zero_le _
  | succ m ih =>
    intro n c
    cases n with
    | succ n => rw [gr_n, gr_n]; exact ih n c
    | zero =>
      rw [gr_w, gr_w]
      have h1 := ih P R
      have h2 := ih 0 (c - 1)
      split <;> omega
theorem gr_step (R P m : Nat) : ∀ n c, grS R P (m + 1) n c ≤ grS R P m n c + 1 := by
  induction m with
  | zero =>
    intro n c
    cases n with
    | succ n => rw [gr_n, gr_0, gr_0]; omega
    | zero => rw [gr_w, gr_0, gr_0, gr_0]; split <;> omega
  | succ m ih =>
    intro n c
    cases n with
    | succ n => rw [gr_n, gr_n]; exact ih n c
    | zero =>
      have h1 := ih P R
      have h2 := ih 0 (c - 1)
      rw [gr_w R P (m + 1) c, gr_w R P m c]
      split <;> omega
theorem gr_rest (R P m : Nat) : ∀ c, grS R P m P R ≤ grS R P m 0 c := by
  induction m with
  | zero => intro c; rw [gr_0]; exact Nat.zero_le _
  | succ m ih =>
    intro c
    have h1 := gr_step R P m P R
    have h2 := ih (c - 1)
    rw [gr_w R P m c]
    split <;> omega
/-- a place that can be come to -/
structure okR (L : ShiftLim) (s : ShiftPt) : Prop where
  w0 : 0 ≤ s.w
  w1 : s.w ≤ L.most
  r0 : 0 ≤ s.r
  r1 : s.r ≤ L.row
  f0 : -1 ≤ s.f
  no : s.f = -1 → s.r = 0
  up : 0 < s.f → s.r = 0
  at0 : s.f = 0 → 1 ≤ s.r
theorem okR_start {L : ShiftLim} (h1 : 0 ≤ L.most) (h2 : 0 ≤ L.row) : okR L ShiftPt.start := ⟨Int.le_refl _, h1, Int.le_refl _, h2, Int.le_refl _, fun _ => rfl, fun h => by simp [ShiftPt.start] at h, fun h => by simp [ShiftPt.start] at h⟩
theorem okR_off {L : ShiftLim} (h2 : 0 ≤ L.row) {s : ShiftPt} (h : okR L s) : okR L s.offR := by
  obtain ⟨a, b, c, d, e, f, g, i⟩ := h
  refine ⟨a, b, Int.le_refl _, h2, ?_, fun _ => rfl, fun _ => rfl, fun h => ?_⟩
  · simp only [ShiftPt.offR]; split <;> omega
  · simp only [ShiftPt.offR] at h ⊢; split at h <;> omega
theorem okR_on {L : ShiftLim} {s : ShiftPt} (h : okR L s) (hm : s.may L = true) : okR L s.on := by
  obtain ⟨a, b, c, d, e, f, g, i⟩ := h
  obtain ⟨_, m1, m2⟩ := may_iff.1 hm
  exact ⟨by simp only [ShiftPt.on]; omega, m1, by simp only [ShiftPt.on]; omega, m2, by simp [ShiftPt.on], fun h => by simp [ShiftPt.on] at h, fun h => by simp [ShiftPt.on] at h, fun _ => by simp only [ShiftPt.on]; omega⟩
def needF (P R f r : Int) : Nat := if 0 < f ∧ f < P then (P - f).toNat else if r = R then P.toNat else 0
def capF (R r : Int) (n : Nat) : Nat := if 0 < n then R.toNat else (R - r).toNat
def needS (L : ShiftLim) (s : ShiftPt) : Nat := needF L.pause L.row s.f s.r
def capS (L : ShiftLim) (s : ShiftPt) : Nat := capF L.row s.r (needS L s)
theorem need_off {L : ShiftLim} (s : ShiftPt) : needS L s.offR = needF L.pause L.row (if 0 ≤ s.f then s.f + 1 else s.f) 0 := rfl
theorem cap_off {L : ShiftLim} (s : ShiftPt) : capS L s.offR = L.row.toNat := by
  show capF L.row 0 _ = _
  unfold capF; split
  · rfl
  · simp
theorem need_cases {L : ShiftLim} (s : ShiftPt) : (0 < s.f ∧ s.f < L.pause ∧ needS L s = (L.pause - s.f).toNat) ∨ (¬ (0 < s.f ∧ s.f < L.pause) ∧ s.r = L.row ∧ needS L s = L.pause.toNat) ∨ (¬ (0 < s.f ∧ s.f < L.pause) ∧ ¬ s.r = L.row ∧ needS L s = 0) := by
  unfold needS needF
  by_cases h1 : 0 < s.f ∧ s.f < L.pause
  · left; rw [if_pos h1]; exact ⟨h1.1, h1.2, rfl⟩
  · right
    by_cases h2 : s.r = L.row
    · left; rw [if_neg h1, if_pos h2]; exact ⟨h1, h2, rfl⟩
    · right; rw [if_neg h1, if_neg h2]; exact ⟨h1, h2, rfl⟩
theorem need_off1 {L : ShiftLim} (hr : 1 ≤ L.row) (s : ShiftPt) (h : 0 ≤ s.f) : needS L s.offR = (L.pause - (s.f + 1)).toNat := by
  rw [need_off, if_pos h]
  unfold needF
  by_cases h2 : s.f + 1 < L.pause
  · rw [if_pos (by omega)]
  · rw [if_neg (by omega), if_neg (by omega)]; omega
/-- a free slot where one must rest -/
theorem gr_off_need {L : ShiftLim} (hp : 1 ≤ L.pause) (hr : 1 ≤ L.row) {s : ShiftPt} (h : okR L s) {n : Nat} (hn : needS L s = n + 1) : needS L s.offR = n ∧ capS L s.offR = capS L s := by
  obtain ⟨a, b, c, d, e, f, g, i⟩ := h
  have hc : capS L s = L.row.toNat := by unfold capS capF; rw [hn, if_pos (by omega)]
  refine ⟨?_, by rw [cap_off, hc]⟩
  rcases need_cases (L := L) s with ⟨h1, h2, h3⟩ | ⟨h1, h2, h3⟩ | ⟨h1, h2, h3⟩
  · rw [need_off1 hr s (by omega)]; omega
  · have : s.f = 0 := by
      rcases Int.lt_or_le 0 s.f with h4 | h4
      · have := g h4; omega
      · by_cases h5 : s.f = 0
        · exact h5
        · have := f (by omega); omega
    rw [need_off1 hr s (by omega)]; omega
  · omega
/-- a free slot where one may work -/
theorem gr_off_free {L : ShiftLim} (hp : 1 ≤ L.pause) (hr : 1 ≤ L.row) {s : ShiftPt} (h : okR L s) (hn : needS L s = 0) (m : Nat) : grS L.row.toNat L.pause.toNat m (needS L s.offR) (capS L s.offR) ≤ grS L.row.toNat L.pause.toNat (m + 1) 0 (capS L s) := by
  obtain ⟨a, b, c, d, e, f, g, i⟩ := h
  rw [cap_off]
  rcases need_cases (L := L) s with ⟨h1, h2, h3⟩ | ⟨h1, h2, h3⟩ | ⟨h1, h2, h3⟩
  · omega
  · omega
  have hc : capS L s = (L.row - s.r).toNat := by unfold capS capF; rw [hn, if_neg (by omega)]
  by_cases h0 : s.f = 0
  · -- just worked
    rw [need_off1 hr s (by omega), h0]
    have e3 : grS L.row.toNat L.pause.toNat m (L.pause - (0 + 1)).toNat L.row.toNat = grS L.row.toNat L.pause.toNat (m + 1) L.pause.toNat L.row.toNat := by
      obtain ⟨p, hp2⟩ : ∃ p, L.pause.toNat = p + 1 := ⟨L.pause.toNat - 1, by omega⟩
      rw [show (L.pause - (0 + 1)).toNat = p by omega, hp2, gr_n]
    rw [e3]
    exact gr_rest _ _ _ _
  · have en : needS L s.offR = 0 := by
      by_cases h3 : 0 ≤ s.f
      · rw [need_off1 hr s h3]; omega
      · rw [need_off, if_neg h3]
        unfold needF
        rw [if_neg (by omega), if_neg (by omega)]
    have er : s.r = 0 := by
      rcases Int.lt_or_le 0 s.f with h3 | h3
      · exact g h3
      · exact f (by omega)
    rw [en, hc, er, Int.sub_zero]
    exact gr_mono _ _ _ _ _
theorem gr_on {L : ShiftLim} (hp : 1 ≤ L.pause) (hr : 1 ≤ L.row) {s : ShiftPt} (h : okR L s) (hm : s.may L = true) (m : Nat) : needS L s = 0 ∧ grS L.row.toNat L.pause.toNat (m + 1) 0 (capS L s) = 1 + grS L.row.toNat L.pause.toNat m (needS L s.on) (capS L s.on) := by
  obtain ⟨m0, m1, m2⟩ := may_iff.1 hm
  have hn : needS L s = 0 := by
    rcases need_cases (L := L) s with ⟨h1, h2, h3⟩ | ⟨h1, h2, h3⟩ | ⟨h1, h2, h3⟩
    · omega
    · omega
    · exact h3
  refine ⟨hn, ?_⟩
  have hc : capS L s = (L.row - s.r).toNat := by unfold capS capF; rw [hn, if_neg (by omega)]
  have en : needS L s.on = if s.r + 1 = L.row then L.pause.toNat else 0 := by
    show needF L.pause L.row 0 (s.r + 1) = _
    unfold needF
    rw [if_neg (by omega)]
  have ec : capS L s.on = capF L.row (s.r + 1) (needS L s.on) := rfl
  rw [gr_w, hc, ec, en]
  unfold capF
  by_cases h1 : s.r + 1 = L.row
  · rw [if_pos (by omega), if_pos h1, if_pos (by omega)]
  · rw [if_neg (by omega), if_neg h1, if_neg (by omega), show (L.row - s.r).toNat - 1 = (L.row - (s.r + 1)).toNat by omega]
/-- more than greedy work cannot be had -/
theorem list_gr {L : ShiftLim} (hp : 1 ≤ L.pause) (hr : 1 ≤ L.row) (m : Nat) : ∀ (s : ShiftPt) (t : ByteArray), okR L s → listS L m (s.cut L) t ≠ [] → L.least ≤ s.w + min (L.most - s.w) (grS L.row.toNat L.pause.toNat m (needS L s) (capS L s)) := by
  induction m with
  | zero =>
    intro s t h hl
    rw [listS] at hl
    split at hl
    · rename_i h1
      change L.least ≤ s.w at h1
      have := h.w1
      rw [gr_0]; omega
    · exact absurd rfl hl
  | succ m ih =>
    intro s t h hl
    rw [listS] at hl
    have hw := h.w1
    by_cases h1 : listS L m ((s.cut L).off L) (t ++ ⟨#[46]⟩) = []
    · rw [h1, List.nil_append] at hl
      split at hl
      · rename_i hm
        rw [cut_may hp] at hm
        rw [← cut_on hp] at hl
        have i := ih s.on _ (okR_on h hm) hl
        obtain ⟨g1, g2⟩ := gr_on hp hr h hm m
        obtain ⟨_, m1, _⟩ := may_iff.1 hm
        rw [g1, g2]
        change L.least ≤ (s.w + 1) + min (L.most - (s.w + 1)) _ at i
        push_cast
        omega
      · exact absurd rfl hl
    · rw [← cut_off hp] at h1
      have i := ih s.offR _ (okR_off (by omega) h) h1
      change L.least ≤ s.w + min (L.most - s.w) _ at i
      cases hn : needS L s with
      | zero =>
        have := gr_off_free hp hr h hn m
        omega
      | succ n =>
        obtain ⟨g1, g2⟩ := gr_off_need hp hr h hn
        rw [g1, g2] at i
        rw [gr_n]
        exact i
theorem gr_reach {L : ShiftLim} (hp : 1 ≤ L.pause) (hr : 1 ≤ L.row) (m : Nat) : ∀ (s : ShiftPt), okR L s → min (L.most - s.w) (grS L.row.toNat L.pause.toNat m (needS L s) (capS L s)) ≤ reachS L m s := by
  induction m with
  | zero => intro s h; have := h.w1; rw [gr_0, reachS]; omega
  | succ m ih =>
    intro s h
    have hw := h.w1
    rw [reachS]
    split
    · rename_i hm
      obtain ⟨g1, g2⟩ := gr_on hp hr h hm m
      have i := ih s.on (okR_on h hm)
      change min (L.most - (s.w + 1)) _ ≤ _ at i
      rw [g1, g2]
      push_cast
      omega
    · rename_i hm
      have i := ih s.offR (okR_off (by omega) h)
      change min (L.most - s.w) _ ≤ _ at i
      cases hn : needS L s with
      | zero =>
        -- no rest is wanted: the most is reached
        have : ¬ (s.w + 1 ≤ L.most) := by
          intro h1
          apply hm
          rw [may_iff]
          have hr1 := h.r1
          rcases need_cases (L := L) s with ⟨h2, h3, h4⟩ | ⟨h2, h3, h4⟩ | ⟨h2, h3, h4⟩
          · omega
          · omega
          · exact ⟨h2, h1, by omega⟩
        omega
      | succ n =>
        obtain ⟨g1, g2⟩ := gr_off_need hp hr h hn
        rw [g1, g2] at i
        rw [gr_n]
        exact i
/-- too few slots left: no shift -/
theorem list_none {L : ShiftLim} (hp : 1 ≤ L.pause) (hr : 1 ≤ L.row) {m : Nat} {s : ShiftPt} {t : ByteArray} (h : okR L s) (hl : s.w + reachS L m s < L.least) : listS L m (s.cut L) t = [] := by
  rcases Classical.em (listS L m (s.cut L) t = []) with h1 | h1
  · exact h1
  · exfalso
    have a := list_gr hp hr m s t h h1
    have b := gr_reach hp hr m s h
    omega
end Go.Proofs.YtmjdhignhdphpaaDoor.Plain
