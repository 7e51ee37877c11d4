/- Plans of tasks made level. No program stands here. -/
import Derived.Test.YtdbojkanelmlkaaPlain
import Derived.Test.YtdbojkanelmlkaaProT
namespace Go.Proofs.Ytdbojkanelmlkaa.Plain
set_option linter.unusedVariables false
set_option linter.unusedSimpArgs false
/-- k places from p on, each x more -/
def addR (l : List Int) (p : Nat) (x : Int) : Nat → List Int
  | 0 => l
  | k + 1 => (addR l p x k).set (p + k) ((addR l p x k).getD (p + k) 0 + x)
theorem addR_len (l : List Int) (p : Nat) (x : Int) (k : Nat) : (addR l p x k).length = l.length := by
  induction k with
  | zero => rfl
  | succ k ih => rw [addR, List.length_set, ih]
/-- what the first i tasks need at each time -/
def useL (ts : List TK) (st : Nat → Int) (E : Nat) : Nat → List Int
  | 0 => List.replicate E 0
  | i + 1 => addR (useL ts st E i) (st i).toNat (tkAt ts i).b (tkAt ts i).a.toNat
theorem useL_len (ts : List TK) (st : Nat → Int) (E i : Nat) : (useL ts st E i).length = E := by
  induction i with
  | zero => simp [useL]
  | succ i ih => rw [useL, addR_len, ih]
theorem addR_bd {l : List Int} {p : Nat} {x B : Int} (h0 : 0 ≤ x) (hl : ∀ j, 0 ≤ l.getD j 0 ∧ l.getD j 0 ≤ B) (k : Nat) : ∀ j, 0 ≤ (addR l p x k).getD j 0 ∧ (addR l p x k).getD j 0 ≤ if p ≤ j ∧ j < p + k then B + x else B := by
  induction k with
  | zero => intro j; rw [addR, if_neg (by omega)]; exact hl j
  | succ k ih =>
    intro j
    have h1 := ih j
    have h2 := ih (p + k)
    rw [if_neg (by omega)] at h2
    rw [addR]
    by_cases hlen : p + k < (addR l p x k).length
    · rw [set_at _ _ _ _ hlen]
      by_cases hj : j = p + k
      · subst hj
        rw [if_pos rfl]
        rw [if_pos (by omega)]
        omega
      · rw [if_neg hj]
        by_cases h3 : p ≤ j ∧ j < p + k
        · rw [if_pos h3] at h1; rw [if_pos (by omega)]; exact h1
        · rw [if_neg h3] at h1; rw [if_neg (by omega)]; exact h1
    · rw [List.set_eq_of_length_le (by omega)]
      have hz : (addR l p x k).getD (p + k) 0 = 0 := by
        rw [List.getD_eq_getElem?_getD, List.getElem?_eq_none (by omega)]; rfl
      refine ⟨h1.1, Int.le_trans h1.2 ?_⟩
      by_cases h3 : p ≤ j ∧ j < p + k
      · rw [if_pos h3, if_pos (by omega)]; exact Int.le_refl _
      · rw [if_neg h3]; split <;> omega
theorem useL_bd {ts : List TK} {n : Nat} (h : TasksOk ts n) (st : Nat → Int) (E : Nat) (i : Nat) (hi : i ≤ n) : ∀ j, 0 ≤ (useL ts st E i).getD j 0 ∧ (useL ts st E i).getD j 0 ≤ 20 * i := by
  induction i with
  | zero =>
    intro j
    rw [useL, List.getD_eq_getElem?_getD, List.getElem?_replicate]
    split <;> simp
  | succ i ih =>
    intro j
    have h1 := addR_bd (p := (st i).toNat) (h i (by omega)).b0 (ih (by omega)) (tkAt ts i).a.toNat j
    have h2 := (h i (by omega)).b1
    have h3 := (h i (by omega)).b0
    rw [useL]
    push_cast
    split at h1 <;> omega
/-- the sum of the squares of the first k -/
def sqN (l : List Int) : Nat → Int
  | 0 => 0
  | k + 1 => sqN l k + l.getD k 0 * l.getD k 0
theorem sqN_bd {l : List Int} {B : Int} (hB : 0 ≤ B) (h : ∀ j, 0 ≤ l.getD j 0 ∧ l.getD j 0 ≤ B) (k : Nat) : 0 ≤ sqN l k ∧ sqN l k ≤ B * B * k := by
  induction k with
  | zero => simp [sqN]
  | succ k ih =>
    have h1 := h k
    have h2 : 0 ≤ l.getD k 0 * l.getD k 0 := Int.mul_nonneg h1.1 h1.1
    have h3 : l.getD k 0 * l.getD k 0 ≤ B * B := Int.mul_le_mul h1.2 h1.2 h1.1 hB
    rw [sqN]
    push_cast
    rw [Int.mul_add, Int.mul_one]
    omega
/-- the squares of a plan -/
def sqS (ts : List TK) (n : Nat) (s : List Int) : Int := sqN (useL ts (fun j => s.getD j 0) (lastF ts (fun j => s.getD j 0) n).toNat n) (lastF ts (fun j => s.getD j 0) n).toNat
theorem sqS_ge {ts : List TK} {n : Nat} (h : TasksOk ts n) (s : List Int) : 0 ≤ sqS ts n s := (sqN_bd (B := 20 * n) (by omega) (useL_bd h _ _ n (Nat.le_refl _)) _).1
/-- the last of the least among k from low on -/
def pickB (f : Int → Int) (low b0 : Int) : Nat → Int × Int
  | 0 => (b0, -1)
  | k + 1 => if (pickB f low b0 k).2 < 0 ∨ f (low + k) ≤ (pickB f low b0 k).2 then (low + k, f (low + k)) else pickB f low b0 k
theorem pickB_at {f : Int → Int} {low b0 : Int} (hf : ∀ x, 0 ≤ f x) (k : Nat) (hk : 1 ≤ k) : (∃ j, j < k ∧ (pickB f low b0 k).1 = low + (j : Nat) ∧ (pickB f low b0 k).2 = f (low + (j : Nat))) ∧ ∀ j, j < k → (pickB f low b0 k).2 ≤ f (low + (j : Nat)) := by
  induction k with
  | zero => omega
  | succ k ih =>
    rw [pickB]
    rcases Nat.eq_zero_or_pos k with h0 | h0
    · subst h0
      rw [if_pos (.inl (by rw [pickB]; omega))]
      exact ⟨⟨0, by omega, rfl, rfl⟩, fun j hj => by (obtain rfl : j = 0 := (by omega)); exact Int.le_refl _⟩
    · obtain ⟨⟨j0, h1, h2, h3⟩, h4⟩ := ih h0
      by_cases hc : (pickB f low b0 k).2 < 0 ∨ f (low + k) ≤ (pickB f low b0 k).2
      · rw [if_pos hc]
        refine ⟨⟨k, by omega, rfl, rfl⟩, fun j hj => ?_⟩
        have hp := hf (low + (j0 : Nat))
        have hc2 : f (low + k) ≤ (pickB f low b0 k).2 := by
          rcases hc with hc | hc
          · rw [h3] at hc; omega
          · exact hc
        by_cases he : j = k
        · subst he; exact Int.le_refl _
        · exact Int.le_trans hc2 (h4 j (by omega))
      · rw [if_neg hc]
        refine ⟨⟨j0, by omega, h2, h3⟩, fun j hj => ?_⟩
        by_cases he : j = k
        · subst he; omega
        · exact h4 j (by omega)
/-- the ends between which a task may start -/
def lowS (ts : List TK) (s : List Int) (i : Nat) : Int := leastF ts (fun j => s.getD j 0) (tkAt ts i) (tkAt ts i).bf.length
def highS (ts : List TK) (n : Nat) (e : Int) (s : List Int) (i : Nat) : Int := lateF ts (fun j => s.getD j 0) i e (n - 1 - i)
/-- a task is moved -/
def lvlM (ts : List TK) (n : Nat) (e : Int) (s : List Int) (i : Nat) : List Int :=
  s.set i (pickB (fun x => sqS ts n (s.set i x)) (lowS ts s i) (s.getD i 0) (highS ts n e s i + 1 - lowS ts s i).toNat).1
/-- the tasks from the last one on, k of them -/
def lvlK (ts : List TK) (n : Nat) (e : Int) (s : List Int) : Nat → List Int
  | 0 => s
  | k + 1 => lvlM ts n e (lvlK ts n e s k) (n - 1 - k)
def lvlR (ts : List TK) (n : Nat) (e : Int) (s : List Int) : Nat → List Int
  | 0 => s
  | r + 1 => lvlK ts n e (lvlR ts n e s r) n
/-- a plan that ends in time -/
structure Feas (ts : List TK) (n : Nat) (e : Int) (s : List Int) : Prop where
  len : s.length = n
  lo : ∀ i, i < n → lowS ts s i ≤ s.getD i 0
  hi : ∀ i, i < n → s.getD i 0 + (tkAt ts i).a ≤ e
theorem Feas.nn {ts : List TK} {n : Nat} {e : Int} {s : List Int} (h : Feas ts n e s) {i : Nat} (hi : i < n) : 0 ≤ s.getD i 0 := by
  have h1 := (leastF_le ts (fun j => s.getD j 0) (tkAt ts i) (tkAt ts i).bf.length).1
  have h2 := h.lo i hi
  rw [lowS] at h2
  omega
theorem Feas.high {ts : List TK} {n : Nat} {e : Int} {s : List Int} (ho : TasksOk ts n) (h : Feas ts n e s) {i : Nat} (hi : i < n) : s.getD i 0 ≤ highS ts n e s i := by
  refine lateF_ge ho _ i e (n - 1 - i) (by omega) _ (by have := h.hi i hi; omega) fun j k h1 h2 h3 h4 => ?_
  have h5 := (leastF_le ts (fun j => s.getD j 0) (tkAt ts j) (tkAt ts j).bf.length).2 k h3
  have h6 := h.lo j (by omega)
  rw [lowS] at h6
  try simp only at h5
  rw [h4] at h5
  try simp only
  omega
theorem Feas.set {ts : List TK} {n : Nat} {e : Int} {s : List Int} (ho : TasksOk ts n) (h : Feas ts n e s) {i : Nat} (hi : i < n) {x : Int} (hx0 : lowS ts s i ≤ x) (hx1 : x ≤ highS ts n e s i) : Feas ts n e (s.set i x) := by
  have hl := h.len
  have hg : ∀ j, (s.set i x).getD j 0 = if j = i then x else s.getD j 0 := fun j => set_at _ _ _ _ (by omega)
  have hle := lateF_le ho (fun j => s.getD j 0) i e (n - 1 - i) (by omega)
  refine ⟨by rw [List.length_set, hl], fun j hj => ?_, fun j hj => ?_⟩
  · rw [hg]
    by_cases he : j = i
    · subst he
      rw [if_pos rfl]
      refine Int.le_trans (Int.le_of_eq ?_) hx0
      exact leastF_eq (ho j hj) (fun m hm => by rw [hg, if_neg (by omega)]) _ (Nat.le_refl _)
    · rw [if_neg he]
      refine leastF_max (h.nn hj) fun k hk => ?_
      try simp only
      rw [hg]
      by_cases hb : bN (tkAt ts j) k = i
      · rw [if_pos hb]
        have hlt := (ho j hj).lt hk
        have := hle.2 j k (by omega) (by omega) hk hb
        rw [highS] at hx1
        rw [hb]
        omega
      · rw [if_neg hb]
        have h5 := (leastF_le ts (fun j => s.getD j 0) (tkAt ts j) (tkAt ts j).bf.length).2 k hk
        have h6 := h.lo j hj
        rw [lowS] at h6
        try simp only at h5
        omega
  · rw [hg]
    by_cases he : j = i
    · subst he
      rw [if_pos rfl]
      rw [highS] at hx1
      have := hle.1
      omega
    · rw [if_neg he]; exact h.hi j hj
theorem Feas.move {ts : List TK} {n : Nat} {e : Int} {s : List Int} (ho : TasksOk ts n) (h : Feas ts n e s) {i : Nat} (hi : i < n) : Feas ts n e (lvlM ts n e s i) ∧ sqS ts n (lvlM ts n e s i) ≤ sqS ts n s := by
  have h1 := h.lo i hi
  have h2 := h.high ho hi
  obtain ⟨⟨j, hj, h3, h4⟩, h5⟩ := pickB_at (f := fun x => sqS ts n (s.set i x)) (low := lowS ts s i) (b0 := s.getD i 0) (fun x => sqS_ge ho _) (highS ts n e s i + 1 - lowS ts s i).toNat (by omega)
  refine ⟨?_, ?_⟩
  · rw [lvlM, h3]
    exact h.set ho hi (by omega) (by omega)
  · rw [lvlM, h3]
    have h6 := h5 (s.getD i 0 - lowS ts s i).toNat (by omega)
    rw [h4] at h6
    rw [show lowS ts s i + (((s.getD i 0 - lowS ts s i).toNat : Nat) : Int) = s.getD i 0 by omega] at h6
    try simp only at h6
    have e1 : s.set i (s.getD i 0) = s := by
      have hil : i < s.length := by rw [h.len]; exact hi
      rw [List.getD_eq_getElem?_getD, List.getElem?_eq_getElem hil, Option.getD_some, List.set_getElem_self]
    rw [e1] at h6
    exact h6
theorem Feas.sweep {ts : List TK} {n : Nat} {e : Int} {s : List Int} (ho : TasksOk ts n) (h : Feas ts n e s) (k : Nat) (hk : k ≤ n) : Feas ts n e (lvlK ts n e s k) ∧ sqS ts n (lvlK ts n e s k) ≤ sqS ts n s := by
  induction k with
  | zero => exact ⟨h, Int.le_refl _⟩
  | succ k ih =>
    have h1 := ih (by omega)
    have h2 := h1.1.move ho (i := n - 1 - k) (by omega)
    rw [lvlK]
    exact ⟨h2.1, Int.le_trans h2.2 h1.2⟩
theorem Feas.rounds {ts : List TK} {n : Nat} {e : Int} {s : List Int} (ho : TasksOk ts n) (h : Feas ts n e s) (r : Nat) : Feas ts n e (lvlR ts n e s r) ∧ sqS ts n (lvlR ts n e s r) ≤ sqS ts n s := by
  induction r with
  | zero => exact ⟨h, Int.le_refl _⟩
  | succ r ih =>
    have h2 := ih.1.sweep ho n (Nat.le_refl _)
    rw [lvlR]
    exact ⟨h2.1, Int.le_trans h2.2 ih.2⟩
/-- the least starts are a plan -/
theorem feas_early {ts : List TK} {n : Nat} (ho : TasksOk ts n) {e : Int} (he : lastF ts (eS ts n) n ≤ e) : Feas ts n e (earlyL ts n n) :=
  ⟨earlyL_len ts n n, fun i hi => Int.le_of_eq (eS_is ho hi).symm, fun i hi => by
    have := (lastF_le ts (eS ts n) n).2 i hi
    rw [eS] at this
    omega⟩
end Go.Proofs.Ytdbojkanelmlkaa.Plain
