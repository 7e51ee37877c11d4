/- Shifts in plain numbers: how many ways there are from a state on, forwards and backwards. No program stands here. -/
import Derived.Test.YtmjdhignhdphpaaDoorPlain
namespace Go.Proofs.YtmjdhignhdphpaaDoor.Plain

/-- the limits of a rule: least and most to work, most in a row, the shortest pause -/
structure ShiftLim where
  least : Int
  most : Int
  row : Int
  pause : Int
/-- how a beginning stands: worked, in a row at last, free at last (-1: not begun) -/
structure ShiftPt where
  w : Int
  r : Int
  f : Int
deriving DecidableEq
def ShiftPt.start : ShiftPt := ⟨0, 0, -1⟩
def ShiftPt.off (L : ShiftLim) (s : ShiftPt) : ShiftPt := ⟨s.w, 0, if 0 ≤ s.f then min (s.f + 1) L.pause else s.f⟩
def ShiftPt.on (s : ShiftPt) : ShiftPt := ⟨s.w + 1, s.r + 1, 0⟩
def ShiftPt.may (L : ShiftLim) (s : ShiftPt) : Bool := !(decide (0 < s.f) && decide (s.f < L.pause)) && (decide (s.w + 1 ≤ L.most) && decide (s.r + 1 ≤ L.row))
/-- how many ways there are with n slots left -/
def cS (L : ShiftLim) : Nat → ShiftPt → Nat
  | 0, s => if L.least ≤ s.w then 1 else 0
  | n + 1, s => cS L n (s.off L) + if s.may L then cS L n s.on else 0
theorem cS_le (L : ShiftLim) (n : Nat) (s : ShiftPt) : cS L n s ≤ 2 ^ n := by
  induction n generalizing s with
  | zero => simp only [cS]; split <;> simp
  | succ n ih =>
    have h1 := ih (s.off L)
    have h2 := ih s.on
    rw [cS, Nat.pow_succ]
    split <;> omega

/-! ## forwards: places and their counts -/
/-- the sum of counts times what comes behind each place -/
def sumC (F : ShiftPt → Int) (l : List (ShiftPt × Int)) : Int := l.foldr (fun x a => x.2 * F x.1 + a) 0
theorem sumC_app (F : ShiftPt → Int) (l m : List (ShiftPt × Int)) : sumC F (l ++ m) = sumC F l + sumC F m := by
  induction l with
  | nil => simp [sumC]
  | cons x l ih => simp only [sumC, List.cons_append, List.foldr_cons] at ih ⊢; rw [ih]; omega
/-- a count is added to its place -/
def addC : List (ShiftPt × Int) → ShiftPt → Int → List (ShiftPt × Int)
  | [], p, c => [(p, c)]
  | x :: l, p, c => if x.1 = p then (x.1, x.2 + c) :: l else x :: addC l p c
theorem sumC_add (F : ShiftPt → Int) (l : List (ShiftPt × Int)) (p : ShiftPt) (c : Int) : sumC F (addC l p c) = sumC F l + c * F p := by
  induction l with
  | nil => simp [addC, sumC]
  | cons x l ih =>
    rw [addC]
    split
    · rename_i e
      simp only [sumC, List.foldr_cons]
      rw [Int.add_mul, e]
      omega
    · simp only [sumC, List.foldr_cons] at ih ⊢
      rw [ih]
      omega
theorem addC_len (l : List (ShiftPt × Int)) (p : ShiftPt) (c : Int) : (addC l p c).length ≤ l.length + 1 := by
  induction l with
  | nil => simp [addC]
  | cons x l ih =>
    rw [addC]
    split
    · simp
    · simp only [List.length_cons]; omega
/-- one slot more: from each place, free and worked -/
def stepC (L : ShiftLim) (acc : List (ShiftPt × Int)) (x : ShiftPt × Int) : List (ShiftPt × Int) :=
  if x.1.may L then addC (addC acc (x.1.off L) x.2) x.1.on x.2 else addC acc (x.1.off L) x.2
def nextC (L : ShiftLim) (l : List (ShiftPt × Int)) : List (ShiftPt × Int) := l.foldl (stepC L) []
theorem sumC_step (L : ShiftLim) (n : Nat) (acc : List (ShiftPt × Int)) (x : ShiftPt × Int) : sumC (fun s => (cS L n s : Int)) (stepC L acc x) = sumC (fun s => (cS L n s : Int)) acc + x.2 * (cS L (n + 1) x.1 : Int) := by
  unfold stepC
  rw [cS]
  split
  · rw [sumC_add, sumC_add]
    push_cast
    rw [Int.mul_add]
    omega
  · rw [sumC_add]
    push_cast
    simp
theorem sumC_next (L : ShiftLim) (n : Nat) (l : List (ShiftPt × Int)) : sumC (fun s => (cS L n s : Int)) (nextC L l) = sumC (fun s => (cS L (n + 1) s : Int)) l := by
  suffices h : ∀ (l acc : List (ShiftPt × Int)), sumC (fun s => (cS L n s : Int)) (l.foldl (stepC L) acc) = sumC (fun s => (cS L n s : Int)) acc + sumC (fun s => (cS L (n + 1) s : Int)) l by
    rw [nextC, h]; simp [sumC]
  intro l
  induction l with
  | nil => intro acc; simp [sumC]
  | cons x l ih =>
    intro acc
    rw [List.foldl_cons, ih, sumC_step]
    simp only [sumC, List.foldr_cons]
    omega
/-- the places behind n slots -/
def placesC (L : ShiftLim) : Nat → List (ShiftPt × Int)
  | 0 => [(ShiftPt.start, 1)]
  | n + 1 => nextC L (placesC L n)
theorem places_sum (L : ShiftLim) (n m : Nat) : sumC (fun s => (cS L m s : Int)) (placesC L n) = (cS L (n + m) ShiftPt.start : Int) := by
  induction n generalizing m with
  | zero => simp [placesC, sumC]
  | succ n ih => rw [placesC, sumC_next, ih]; congr 2; omega
/-- all ways: the counts of the places where enough is worked -/
theorem places_all (L : ShiftLim) (n : Nat) : sumC (fun s => if L.least ≤ s.w then 1 else 0) (placesC L n) = (cS L n ShiftPt.start : Int) := by
  have h := places_sum L n 0
  rw [Nat.add_zero] at h
  rw [← h]
  congr 1
  funext s
  simp only [cS]
  split <;> simp
theorem step_len (L : ShiftLim) (acc : List (ShiftPt × Int)) (x : ShiftPt × Int) : (stepC L acc x).length ≤ acc.length + 2 := by
  unfold stepC
  split
  · have h1 := addC_len acc (x.1.off L) x.2
    have h2 := addC_len (addC acc (x.1.off L) x.2) x.1.on x.2
    omega
  · have h1 := addC_len acc (x.1.off L) x.2
    omega
theorem next_len (L : ShiftLim) (l : List (ShiftPt × Int)) : (nextC L l).length ≤ 2 * l.length := by
  suffices h : ∀ (l acc : List (ShiftPt × Int)), (l.foldl (stepC L) acc).length ≤ acc.length + 2 * l.length by
    have := h l []
    simpa [nextC] using this
  intro l
  induction l with
  | nil => intro acc; simp
  | cons x l ih =>
    intro acc
    rw [List.foldl_cons]
    have h1 := ih (stepC L acc x)
    have h2 := step_len L acc x
    simp only [List.length_cons]
    omega
theorem places_len (L : ShiftLim) (n : Nat) : (placesC L n).length ≤ 2 ^ n := by
  induction n with
  | zero => simp [placesC]
  | succ n ih =>
    have := next_len L (placesC L n)
    rw [placesC, Nat.pow_succ]
    omega

/-! ## the reference's list, entry by entry -/
theorem addC_hit {l : List (ShiftPt × Int)} {k : Nat} {p : ShiftPt} {c0 : Int} (hk : l[k]? = some (p, c0)) (hn : ∀ (j : Nat) x, j < k → l[j]? = some x → x.1 ≠ p) (c : Int) : addC l p c = l.set k (p, c0 + c) := by
  induction l generalizing k with
  | nil => simp at hk
  | cons y l ih =>
    rw [addC]
    cases k with
    | zero =>
      simp only [List.getElem?_cons_zero, Option.some.injEq] at hk
      subst hk
      rw [if_pos rfl, List.set_cons_zero]
    | succ k =>
      rw [if_neg (hn 0 y (by omega) rfl), List.set_cons_succ, ih (by simpa using hk) (fun j x hj hx => hn (j + 1) x (by omega) (by simpa using hx))]
theorem addC_miss {l : List (ShiftPt × Int)} {p : ShiftPt} (hn : ∀ (j : Nat) x, j < l.length → l[j]? = some x → x.1 ≠ p) (c : Int) : addC l p c = l ++ [(p, c)] := by
  induction l with
  | nil => rfl
  | cons y l ih =>
    rw [addC, if_neg (hn 0 y (by simp) rfl), ih (fun j x hj hx => hn (j + 1) x (by simp; omega) (by simpa using hx))]
    rfl
theorem addC_pos {l : List (ShiftPt × Int)} (h : ∀ x ∈ l, 0 ≤ x.2) (p : ShiftPt) {c : Int} (hc : 0 ≤ c) : ∀ x ∈ addC l p c, 0 ≤ x.2 := by
  induction l with
  | nil => intro x hx; rw [addC] at hx; simp at hx; subst hx; exact hc
  | cons y l ih =>
    rw [addC]
    have hy := h y (by simp)
    split
    · intro x hx
      rcases List.mem_cons.1 hx with rfl | hx
      · simp only; omega
      · exact h x (by simp [hx])
    · intro x hx
      rcases List.mem_cons.1 hx with rfl | hx
      · exact hy
      · exact ih (fun x hx => h x (by simp [hx])) x hx
/-- all counts together -/
def totC (l : List (ShiftPt × Int)) : Int := sumC (fun _ => 1) l
theorem totC_add (l : List (ShiftPt × Int)) (p : ShiftPt) (c : Int) : totC (addC l p c) = totC l + c := by
  rw [totC, sumC_add]; simp [totC]
theorem totC_get {l : List (ShiftPt × Int)} (h : ∀ x ∈ l, 0 ≤ x.2) : ∀ x ∈ l, x.2 ≤ totC l := by
  induction l with
  | nil => intro x hx; cases hx
  | cons y l ih =>
    have hy := h y (by simp)
    have ht : totC (y :: l) = y.2 + totC l := by simp [totC, sumC]
    have h0 : 0 ≤ totC l := by
      clear ih ht
      induction l with
      | nil => simp [totC, sumC]
      | cons z l ih2 =>
        have hz := h z (by simp)
        have := ih2 (fun x hx => h x (by rcases List.mem_cons.1 hx with rfl | hx <;> simp [*]))
        have e : totC (z :: l) = z.2 + totC l := by simp [totC, sumC]
        omega
    intro x hx
    rcases List.mem_cons.1 hx with rfl | hx
    · omega
    · have := ih (fun x hx => h x (by simp [hx])) x hx
      omega
theorem stepC_pos (L : ShiftLim) {l : List (ShiftPt × Int)} (h : ∀ x ∈ l, 0 ≤ x.2) {x : ShiftPt × Int} (hx : 0 ≤ x.2) : ∀ y ∈ stepC L l x, 0 ≤ y.2 := by
  unfold stepC
  split
  · exact addC_pos (addC_pos h _ hx) _ hx
  · exact addC_pos h _ hx
theorem totC_step (L : ShiftLim) (l : List (ShiftPt × Int)) {x : ShiftPt × Int} (hx : 0 ≤ x.2) : totC (stepC L l x) ≤ totC l + 2 * x.2 := by
  unfold stepC
  split
  · rw [totC_add, totC_add]; omega
  · rw [totC_add]; omega
/-- the first k places are done -/
def someC (L : ShiftLim) (l : List (ShiftPt × Int)) (k : Nat) : List (ShiftPt × Int) := (l.take k).foldl (stepC L) []
theorem someC_succ (L : ShiftLim) {l : List (ShiftPt × Int)} {k : Nat} {x : ShiftPt × Int} (hk : l[k]? = some x) : someC L l (k + 1) = stepC L (someC L l k) x := by
  rw [someC, List.take_add_one, hk, List.foldl_append]; rfl
theorem someC_all (L : ShiftLim) (l : List (ShiftPt × Int)) : someC L l l.length = nextC L l := by rw [someC, List.take_length, nextC]
theorem someC_ok (L : ShiftLim) {l : List (ShiftPt × Int)} (h : ∀ x ∈ l, 0 ≤ x.2) (k : Nat) : (∀ x ∈ someC L l k, 0 ≤ x.2) ∧ totC (someC L l k) ≤ 2 * totC (l.take k) ∧ (someC L l k).length ≤ 2 * k := by
  induction k with
  | zero => exact ⟨by simp [someC], by simp [someC, totC, sumC], by simp [someC]⟩
  | succ k ih =>
    by_cases hk : k < l.length
    · have e := List.getElem?_eq_getElem hk
      have hx := h _ (List.getElem_mem hk)
      rw [someC_succ L e]
      have t := totC_step L (someC L l k) hx
      have t2 : totC (l.take (k + 1)) = totC (l.take k) + l[k].2 := by
        rw [List.take_add_one, e, totC, sumC_app]; simp [totC, sumC]
      have t3 := step_len L (someC L l k) l[k]
      exact ⟨stepC_pos L ih.1 hx, by omega, by omega⟩
    · have e : l.take (k + 1) = l.take k := by rw [List.take_of_length_le (by omega), List.take_of_length_le (by omega)]
      have e2 : someC L l (k + 1) = someC L l k := by rw [someC, e]; rfl
      rw [e2, e]
      exact ⟨ih.1, ih.2.1, by omega⟩
theorem totC_take {l : List (ShiftPt × Int)} (h : ∀ x ∈ l, 0 ≤ x.2) (k : Nat) : totC (l.take k) ≤ totC l := by
  have e : totC l = totC (l.take k) + totC (l.drop k) := by
    have := sumC_app (fun _ => 1) (l.take k) (l.drop k)
    rw [List.take_append_drop] at this
    exact this
  have : 0 ≤ totC (l.drop k) := by
    generalize hm : l.drop k = m
    have h2 : ∀ x ∈ m, 0 ≤ x.2 := fun x hx => h x (List.mem_of_mem_drop (hm ▸ hx))
    clear hm e
    induction m with
    | nil => simp [totC, sumC]
    | cons z m ih2 =>
      have := ih2 (fun x hx => h2 x (by simp [hx]))
      have hz := h2 z (by simp)
      have e : totC (z :: m) = z.2 + totC m := by simp [totC, sumC]
      omega
  omega
theorem places_ok (L : ShiftLim) (n : Nat) : (∀ x ∈ placesC L n, 0 ≤ x.2) ∧ totC (placesC L n) ≤ 2 ^ n := by
  induction n with
  | zero => simp [placesC, totC, sumC]
  | succ n ih =>
    have h := someC_ok L ih.1 (placesC L n).length
    rw [someC_all, List.take_length] at h
    rw [placesC]
    refine ⟨h.1, ?_⟩
    rw [Int.pow_succ]
    omega

/-- what lies in the bounds -/
def inC (L : ShiftLim) (p : ShiftPt) : Prop := 0 ≤ p.w ∧ p.w ≤ L.most ∧ 0 ≤ p.r ∧ p.r ≤ L.row ∧ -1 ≤ p.f ∧ p.f ≤ L.pause
theorem addC_mem {P : ShiftPt → Prop} {l : List (ShiftPt × Int)} (h : ∀ x ∈ l, P x.1) {p : ShiftPt} (hp : P p) (c : Int) : ∀ x ∈ addC l p c, P x.1 := by
  induction l with
  | nil => intro x hx; rw [addC] at hx; simp at hx; subst hx; exact hp
  | cons y l ih =>
    rw [addC]
    have hy := h y (by simp)
    split
    · intro x hx
      rcases List.mem_cons.1 hx with rfl | hx
      · exact hy
      · exact h x (by simp [hx])
    · intro x hx
      rcases List.mem_cons.1 hx with rfl | hx
      · exact hy
      · exact ih (fun x hx => h x (by simp [hx])) x hx
theorem off_in {L : ShiftLim} (hr : 0 ≤ L.row) (hp : 0 ≤ L.pause) {p : ShiftPt} (h : inC L p) : inC L (p.off L) := by
  obtain ⟨h1, h2, h3, h4, h5, h6⟩ := h
  refine ⟨h1, h2, by simp [ShiftPt.off], by simpa [ShiftPt.off] using hr, ?_, ?_⟩
  · simp only [ShiftPt.off]; split <;> omega
  · simp only [ShiftPt.off]; split <;> omega
theorem may_iff {L : ShiftLim} {p : ShiftPt} : p.may L = true ↔ ¬ (0 < p.f ∧ p.f < L.pause) ∧ p.w + 1 ≤ L.most ∧ p.r + 1 ≤ L.row := by
  simp only [ShiftPt.may, Bool.and_eq_true, Bool.not_eq_true', decide_eq_true_eq]
  rw [Bool.and_eq_false_iff]
  simp only [decide_eq_false_iff_not]
  omega
theorem on_in {L : ShiftLim} (hp : 0 ≤ L.pause) {p : ShiftPt} (h : inC L p) (hm : p.may L = true) : inC L p.on := by
  obtain ⟨h1, h2, h3, h4, h5, h6⟩ := h
  obtain ⟨_, m1, m2⟩ := may_iff.1 hm
  exact ⟨by simp only [ShiftPt.on]; omega, m1, by simp only [ShiftPt.on]; omega, m2, by simp [ShiftPt.on], hp⟩
theorem step_in {L : ShiftLim} (hr : 0 ≤ L.row) (hp : 0 ≤ L.pause) {l : List (ShiftPt × Int)} (h : ∀ x ∈ l, inC L x.1) {x : ShiftPt × Int} (hx : inC L x.1) : ∀ y ∈ stepC L l x, inC L y.1 := by
  unfold stepC
  split
  · rename_i hm
    exact addC_mem (P := inC L) (addC_mem (P := inC L) h (off_in hr hp hx) _) (on_in hp hx hm) _
  · exact addC_mem (P := inC L) h (off_in hr hp hx) _
theorem places_in {L : ShiftLim} (hm : 0 ≤ L.most) (hr : 0 ≤ L.row) (hp : 0 ≤ L.pause) (n : Nat) : ∀ x ∈ placesC L n, inC L x.1 := by
  induction n with
  | zero =>
    intro x hx
    simp [placesC] at hx
    subst hx
    exact ⟨by simp [ShiftPt.start], hm, by simp [ShiftPt.start], hr, by simp [ShiftPt.start], by simp [ShiftPt.start]; omega⟩
  | succ n ih =>
    rw [placesC, nextC]
    suffices h : ∀ (l acc : List (ShiftPt × Int)), (∀ x ∈ l, inC L x.1) → (∀ x ∈ acc, inC L x.1) → ∀ x ∈ l.foldl (stepC L) acc, inC L x.1 from h _ [] ih (by simp)
    intro l
    induction l with
    | nil => intro acc _ ha; exact ha
    | cons y l ih2 =>
      intro acc hl ha
      exact ih2 _ (fun x hx => hl x (by simp [hx])) (step_in hr hp ha (hl y (by simp)))
/-- the counts of the first k places where enough is worked -/
def allC (L : ShiftLim) (l : List (ShiftPt × Int)) (k : Nat) : Int := sumC (fun s => if L.least ≤ s.w then 1 else 0) (l.take k)
theorem allC_succ {L : ShiftLim} {l : List (ShiftPt × Int)} {k : Nat} {x : ShiftPt × Int} (hk : l[k]? = some x) : allC L l (k + 1) = allC L l k + (if L.least ≤ x.1.w then x.2 else 0) := by
  rw [allC, List.take_add_one, hk, sumC_app]
  simp only [Option.toList, sumC, List.foldr_cons, List.foldr_nil]
  rw [allC, sumC]
  split <;> simp
theorem allC_bd {L : ShiftLim} {l : List (ShiftPt × Int)} (h : ∀ x ∈ l, 0 ≤ x.2) (k : Nat) : 0 ≤ allC L l k ∧ allC L l k ≤ totC (l.take k) := by
  rw [allC]
  generalize hm : l.take k = m
  have h2 : ∀ x ∈ m, 0 ≤ x.2 := fun x hx => h x (List.mem_of_mem_take (hm ▸ hx))
  clear hm h
  induction m with
  | nil => simp [totC, sumC]
  | cons z m ih =>
    have := ih (fun x hx => h2 x (by simp [hx]))
    have hz := h2 z (by simp)
    simp only [totC, sumC, List.foldr_cons] at this ⊢
    split <;> omega
/-! ## the program's state -/
/-- the program's state: worked, row, pause, begun; what it means -/
def absS (w r p : Int) (b : Bool) : ShiftPt := ⟨w, r, if b then p else -1⟩
/-- a state that can be come to -/
def goodS (L : ShiftLim) (w r p : Int) (b : Bool) : Prop := 0 ≤ p ∧ w ≤ L.most ∧ r ≤ L.row ∧ 0 ≤ r ∧ (b = true → (r = 0 ↔ 0 < p)) ∧ (b = false → r = 0)
theorem good_start (L : ShiftLim) (h : 0 ≤ L.most) (h2 : 0 ≤ L.row) : goodS L 0 0 0 false := ⟨by omega, h, h2, by omega, (fun h => by cases h), fun _ => rfl⟩
theorem abs_start : absS 0 0 0 false = ShiftPt.start := rfl
theorem abs_off (L : ShiftLim) {w r p : Int} {b : Bool} (h : goodS L w r p b) : absS w 0 (min (p + 1) L.pause) b = (absS w r p b).off L := by
  obtain ⟨hp, _⟩ := h
  cases b <;> simp [absS, ShiftPt.off, hp]
theorem good_off (L : ShiftLim) (hL : 1 ≤ L.pause) (hR : 0 ≤ L.row) {w r p : Int} {b : Bool} (h : goodS L w r p b) : goodS L w 0 (min (p + 1) L.pause) b := by
  obtain ⟨hp, hw, hr, h0, h1, h2⟩ := h
  exact ⟨by omega, hw, hR, by omega, fun _ => ⟨fun _ => by omega, fun _ => rfl⟩, fun _ => rfl⟩
/-- the program's test is the reference's -/
theorem abs_may (L : ShiftLim) {w r p : Int} {b : Bool} (h : goodS L w r p b) : (absS w r p b).may L = !((b && (decide (r = 0) && decide (p < L.pause))) || (decide (r = L.row) || decide (w = L.most))) := by
  obtain ⟨hp, hw, hr, h0, h1, h2⟩ := h
  cases b with
  | false =>
    change (!(decide ((0 : Int) < -1) && decide ((-1 : Int) < L.pause)) && (decide (w + 1 ≤ L.most) && decide (r + 1 ≤ L.row))) = _
    simp only [Bool.false_and, Bool.false_or, Bool.not_or]
    have e1 : decide (w + 1 ≤ L.most) = !decide (w = L.most) := by
      rw [← decide_not]; congr 1; exact propext ⟨fun _ => by omega, fun _ => by omega⟩
    have e2 : decide (r + 1 ≤ L.row) = !decide (r = L.row) := by
      rw [← decide_not]; congr 1; exact propext ⟨fun _ => by omega, fun _ => by omega⟩
    rw [e1, e2]
    simp [Bool.and_comm]
  | true =>
    have h3 := h1 rfl
    change (!(decide (0 < p) && decide (p < L.pause)) && (decide (w + 1 ≤ L.most) && decide (r + 1 ≤ L.row))) = _
    simp only [Bool.true_and, Bool.not_or]
    have e0 : decide (0 < p) = decide (r = 0) := by congr 1; exact propext h3.symm
    have e1 : decide (w + 1 ≤ L.most) = !decide (w = L.most) := by
      rw [← decide_not]; congr 1; exact propext ⟨fun _ => by omega, fun _ => by omega⟩
    have e2 : decide (r + 1 ≤ L.row) = !decide (r = L.row) := by
      rw [← decide_not]; congr 1; exact propext ⟨fun _ => by omega, fun _ => by omega⟩
    rw [e0, e1, e2]
    cases decide (r = 0) <;> cases decide (p < L.pause) <;> cases decide (w = L.most) <;> cases decide (r = L.row) <;> rfl
theorem abs_on (w r p : Int) (b : Bool) : absS (w + 1) (r + 1) 0 true = (absS w r p b).on := rfl
theorem good_on (L : ShiftLim) {w r p : Int} {b : Bool} (h : goodS L w r p b) (hm : (absS w r p b).may L = true) : goodS L (w + 1) (r + 1) 0 true := by
  obtain ⟨hp, hw, hr, h0, h1, h2⟩ := h
  change (!(_ && _) && (decide (w + 1 ≤ L.most) && decide (r + 1 ≤ L.row))) = true at hm
  simp only [Bool.and_eq_true, decide_eq_true_eq] at hm
  exact ⟨by omega, hm.2.1, hm.2.2, by omega, fun _ => ⟨fun _ => by omega, fun _ => by omega⟩, fun h => by cases h⟩
end Go.Proofs.YtmjdhignhdphpaaDoor.Plain
