/- Stations of a line: what a table of the least states tells. No program stands here. -/
import Derived.Test.YtkaopdpdfbkchaaPlain
import Derived.Test.YtkaopdpdfbkchaaBits
namespace Go.Proofs.Ytkaopdpdfbkchaa.Plain
set_option linter.unusedVariables false
set_option linter.unusedSimpArgs false
/-- the sum of the numbers that are asked for, of the first k -/
def ldN (P : Nat → Bool) (t : Nat → Nat) : Nat → Nat
  | 0 => 0
  | k + 1 => ldN P t k + if P k = true then t k else 0
theorem ldN_same {P Q : Nat → Bool} {t : Nat → Nat} : ∀ {k : Nat}, (∀ i, i < k → P i = Q i) → ldN P t k = ldN Q t k
  | 0, _ => rfl
  | k + 1, h => by rw [ldN, ldN, ldN_same fun i hi => h i (by omega), h k (by omega)]
theorem ldN_zero {P : Nat → Bool} {t : Nat → Nat} : ∀ {k : Nat}, (∀ i, i < k → P i = false) → ldN P t k = 0
  | 0, _ => rfl
  | k + 1, h => by rw [ldN, ldN_zero fun i hi => h i (by omega), h k (by omega)]; rfl
theorem ldN_add {P Q : Nat → Bool} {t : Nat → Nat} {i : Nat} (hP : P i = false) (hQ : Q i = true) (h : ∀ j, j ≠ i → Q j = P j) : ∀ {k : Nat}, ldN Q t k = ldN P t k + if i < k then t i else 0
  | 0 => by simp [ldN]
  | k + 1 => by
    rw [ldN, ldN, ldN_add hP hQ h]
    by_cases hk : k = i
    · subst hk
      rw [hP, hQ, if_neg (show ¬ k < k by omega), if_pos (show k < k + 1 by omega)]
      simp
    · rw [h k hk]
      by_cases h1 : i < k
      · rw [if_pos h1, if_pos (show i < k + 1 by omega)]; omega
      · rw [if_neg h1, if_neg (show ¬ i < k + 1 by omega)]; omega
theorem ldN_pos {P : Nat → Bool} {t : Nat → Nat} {i : Nat} (hp : P i = true) (ht : 0 < t i) : ∀ {k : Nat}, i < k → 0 < ldN P t k
  | 0, h => by omega
  | k + 1, h => by
    rw [ldN]
    by_cases hk : i = k
    · subst hk; rw [if_pos hp]; omega
    · have := ldN_pos hp ht (k := k) (by omega); omega
theorem ldN_some {P : Nat → Bool} {t : Nat → Nat} : ∀ {k : Nat}, 0 < ldN P t k → ∃ i, i < k ∧ P i = true
  | 0, h => by simp [ldN] at h
  | k + 1, h => by
    rw [ldN] at h
    by_cases hp : P k = true
    · exact ⟨k, by omega, hp⟩
    · rw [if_neg hp] at h
      obtain ⟨i, h1, h2⟩ := ldN_some (k := k) (by omega)
      exact ⟨i, by omega, h2⟩
theorem ldN_le {P Q : Nat → Bool} {t : Nat → Nat} (h : ∀ i, P i = true → Q i = true) : ∀ k, ldN P t k ≤ ldN Q t k
  | 0 => by simp [ldN]
  | k + 1 => by
    have := ldN_le h k (t := t)
    rw [ldN, ldN]
    by_cases hp : P k = true
    · rw [if_pos hp, if_pos (h k hp)]; omega
    · rw [if_neg hp]; omega
/-- the numbers as sets -/
def setB (P : Nat → Bool) : Nat → Nat
  | 0 => 0
  | k + 1 => if P k = true then setB P k ||| 2 ^ k else setB P k
theorem setB_bit (P : Nat → Bool) : ∀ (k i : Nat), (setB P k).testBit i = (decide (i < k) && P i)
  | 0, i => by simp [setB]
  | k + 1, i => by
    rw [setB]
    by_cases hp : P k = true
    · rw [if_pos hp, Nat.testBit_or, setB_bit P k i, Nat.testBit_two_pow]
      by_cases hi : k = i
      · subst hi; simp [hp]
      · by_cases h2 : i < k
        · simp [h2, show i < k + 1 by omega, hi]
        · simp [h2, show ¬ i < k + 1 by omega, hi]
    · rw [if_neg hp, setB_bit P k i]
      by_cases hi : i = k
      · subst hi; simp [hp]
      · by_cases h2 : i < k
        · simp [h2, show i < k + 1 by omega]
        · simp [h2, show ¬ i < k + 1 by omega]
theorem setB_lt (P : Nat → Bool) (n : Nat) : setB P n < 2 ^ n := by
  apply Nat.lt_pow_two_of_testBit
  intro i hi
  rw [setB_bit, decide_eq_false (by omega)]; rfl
theorem set_ext {a b : Nat} (h : ∀ i, a.testBit i = b.testBit i) : a = b := Nat.eq_of_testBit_eq h
theorem or_bit' (d i j : Nat) : (d ||| 2 ^ i).testBit j = (d.testBit j || decide (i = j)) := by rw [Nat.testBit_or, Nat.testBit_two_pow]
theorem or_lt' {d i n : Nat} (hd : d < 2 ^ n) (hi : i < n) : d ||| 2 ^ i < 2 ^ n := Nat.or_lt_two_pow hd (Nat.pow_lt_pow_right (by omega) hi)
theorem or_gt {d i : Nat} (h : d.testBit i = false) : d < d ||| 2 ^ i := by
  have h1 : d ≤ d ||| 2 ^ i := Nat.left_le_or
  rcases Nat.lt_or_ge d (d ||| 2 ^ i) with h2 | h2
  · exact h2
  · have h3 : d = d ||| 2 ^ i := by omega
    rw [h3, or_bit'] at h
    simp at h
theorem mns_zero {a d : Nat} : mns a d = 0 ↔ ∀ k, a.testBit k = true → d.testBit k = true := by
  rw [eq_zero_iff]
  constructor
  · intro h k hk
    have := h k
    rw [mns_bit, hk] at this
    simpa using this
  · intro h k
    rw [mns_bit]
    cases hk : a.testBit k with
    | false => rfl
    | true => rw [h k hk]; rfl
/-- the state behind one task more -/
def nx (c : Nat) (p : Nat × Nat) (t : Nat) : Nat × Nat := if c < p.2 + t then (p.1 + 1, t) else (p.1, p.2 + t)
def lxLt (a b : Nat × Nat) : Prop := a.1 < b.1 ∨ (a.1 = b.1 ∧ a.2 < b.2)
def lxLe (a b : Nat × Nat) : Prop := a.1 < b.1 ∨ (a.1 = b.1 ∧ a.2 ≤ b.2)
instance (a b : Nat × Nat) : Decidable (lxLt a b) := by unfold lxLt; exact inferInstance
theorem lxLe_refl (a : Nat × Nat) : lxLe a a := .inr ⟨rfl, Nat.le_refl _⟩
theorem lxLe_trans {a b c : Nat × Nat} (h : lxLe a b) (k : lxLe b c) : lxLe a c := by
  unfold lxLe at *; omega
theorem lxLt_le {a b : Nat × Nat} (h : lxLt a b) : lxLe a b := by unfold lxLt at h; unfold lxLe; omega
theorem lx_not {a b : Nat × Nat} (h : ¬ lxLt a b) : lxLe b a := by unfold lxLt at h; unfold lxLe; omega
theorem nx_mono {c : Nat} {p q : Nat × Nat} (t : Nat) (h : lxLe p q) : lxLe (nx c p t) (nx c q t) := by
  unfold lxLe at h
  unfold nx lxLe
  split <;> split <;> simp only <;> omega
/-- tables -/
abbrev Tbl := Nat → Option (Nat × Nat)
section
variable (c n : Nat) (t bf : Nat → Nat)
def tblU (T : Tbl) (d i : Nat) : Tbl :=
  if d.testBit i = true ∨ mns (bf i) d ≠ 0 then T else
  match T d with
  | none => T
  | some p => match T (d ||| 2 ^ i) with
    | none => fun e => if e = d ||| 2 ^ i then some (nx c p (t i)) else T e
    | some old => if lxLt (nx c p (t i)) old then fun e => if e = d ||| 2 ^ i then some (nx c p (t i)) else T e else T
def tblS (T : Tbl) (d : Nat) : Nat → Tbl
  | 0 => T
  | i + 1 => tblU c t bf (tblS T d i) d i
def tblR : Nat → Tbl
  | 0 => fun e => if e = 0 then some (1, 0) else none
  | d + 1 => match tblR d d with
    | none => tblR d
    | some _ => tblS c t bf (tblR d) d n
variable {c n t bf}
theorem tblU_keep {T : Tbl} {d i e : Nat} (h : e ≠ d ||| 2 ^ i) : tblU c t bf T d i e = T e := by
  unfold tblU
  split
  · rfl
  · cases hd : T d with
    | none => rfl
    | some p =>
      cases ho : T (d ||| 2 ^ i) with
      | none => simp only [if_neg h]
      | some old =>
        simp only
        split
        · simp only [if_neg h]
        · rfl
theorem tblU_low {T : Tbl} {d i e : Nat} (h : e ≤ d) : tblU c t bf T d i e = T e := by
  by_cases hb : d.testBit i = true
  · unfold tblU; rw [if_pos (.inl hb)]
  · exact tblU_keep (by have := or_gt (d := d) (i := i) (by simpa using hb); omega)
theorem tblS_low {T : Tbl} {d e : Nat} (h : e ≤ d) : ∀ i, tblS c t bf T d i e = T e
  | 0 => rfl
  | i + 1 => by rw [tblS, tblU_low h, tblS_low h i]
theorem tblR_low {e d : Nat} (h : e ≤ d) : ∀ k, tblR c n t bf (d + k) e = tblR c n t bf d e
  | 0 => rfl
  | k + 1 => by
    rw [← Nat.add_assoc, tblR]
    cases hd : tblR c n t bf (d + k) (d + k) with
    | none => exact tblR_low h k
    | some q => simp only; rw [tblS_low (by omega), tblR_low h k]
/-- an entry does not rise -/
theorem tblU_dec {T : Tbl} {d i e : Nat} {p : Nat × Nat} (h : T e = some p) : ∃ q, tblU c t bf T d i e = some q ∧ lxLe q p := by
  by_cases he : e = d ||| 2 ^ i
  · subst he
    unfold tblU
    split
    · exact ⟨p, h, lxLe_refl _⟩
    · rw [h]
      cases hd : T d with
      | none => exact ⟨p, h, lxLe_refl _⟩
      | some p' =>
        simp only
        by_cases hl : lxLt (nx c p' (t i)) p
        · rw [if_pos hl]; exact ⟨_, by rw [if_pos rfl], lxLt_le hl⟩
        · rw [if_neg hl]; exact ⟨p, h, lxLe_refl _⟩
  · rw [tblU_keep he]; exact ⟨p, h, lxLe_refl _⟩
theorem tblS_dec {T : Tbl} {d e : Nat} {p : Nat × Nat} (h : T e = some p) : ∀ i, ∃ q, tblS c t bf T d i e = some q ∧ lxLe q p
  | 0 => ⟨p, h, lxLe_refl _⟩
  | i + 1 => by
    obtain ⟨q, h1, h2⟩ := tblS_dec h i
    obtain ⟨r, h3, h4⟩ := tblU_dec (c := c) (t := t) (bf := bf) (d := d) (i := i) h1
    exact ⟨r, h3, lxLe_trans h4 h2⟩
theorem tblS_later {T : Tbl} {d e i : Nat} {p : Nat × Nat} (h : tblS c t bf T d i e = some p) : ∀ k, ∃ q, tblS c t bf T d (i + k) e = some q ∧ lxLe q p
  | 0 => ⟨p, h, lxLe_refl _⟩
  | k + 1 => by
    obtain ⟨q, h1, h2⟩ := tblS_later h k
    obtain ⟨r, h3, h4⟩ := tblU_dec (c := c) (t := t) (bf := bf) (d := d) (i := i + k) h1
    exact ⟨r, by rw [← Nat.add_assoc, tblS]; exact h3, lxLe_trans h4 h2⟩
theorem tblR_later {d e : Nat} {p : Nat × Nat} (h : tblR c n t bf d e = some p) : ∀ k, ∃ q, tblR c n t bf (d + k) e = some q ∧ lxLe q p
  | 0 => ⟨p, h, lxLe_refl _⟩
  | k + 1 => by
    obtain ⟨q, h1, h2⟩ := tblR_later h k
    rw [← Nat.add_assoc, tblR]
    cases hd : tblR c n t bf (d + k) (d + k) with
    | none => exact ⟨q, h1, h2⟩
    | some q' =>
      obtain ⟨r, h3, h4⟩ := tblS_dec (c := c) (t := t) (bf := bf) (d := d + k) h1 n
      exact ⟨r, h3, lxLe_trans h4 h2⟩
theorem tblU_hit {T : Tbl} {d i : Nat} {p : Nat × Nat} (h : T d = some p) (hb : d.testBit i = false) (hs : mns (bf i) d = 0) : ∃ q, tblU c t bf T d i (d ||| 2 ^ i) = some q ∧ lxLe q (nx c p (t i)) := by
  unfold tblU
  rw [if_neg (by simp [hb, hs]), h]
  simp only
  cases ho : T (d ||| 2 ^ i) with
  | none => simp only; exact ⟨_, by simp, lxLe_refl _⟩
  | some old =>
    simp only
    by_cases hl : lxLt (nx c p (t i)) old
    · rw [if_pos hl]; exact ⟨_, by rw [if_pos rfl], lxLe_refl _⟩
    · rw [if_neg hl]; exact ⟨old, ho, lx_not hl⟩
/-- every step counts -/
theorem tblR_inc {D d i : Nat} {p : Nat × Nat} (hd : d < D) (hi : i < n) (h : tblR c n t bf D d = some p) (hb : d.testBit i = false) (hs : mns (bf i) d = 0) : ∃ q, tblR c n t bf D (d ||| 2 ^ i) = some q ∧ lxLe q (nx c p (t i)) := by
  have h0 : tblR c n t bf d d = some p := by
    have := tblR_low (c := c) (n := n) (t := t) (bf := bf) (Nat.le_refl d) (D - d)
    rw [show d + (D - d) = D by omega] at this
    rw [← this, h]
  have h1 : tblS c t bf (tblR c n t bf d) d i d = some p := by rw [tblS_low (Nat.le_refl d), h0]
  obtain ⟨q, h2, h3⟩ := tblU_hit (c := c) (t := t) (bf := bf) h1 hb hs
  obtain ⟨r, h4, h5⟩ := tblS_later (i := i + 1) (show tblS c t bf (tblR c n t bf d) d (i + 1) (d ||| 2 ^ i) = some q from h2) (n - (i + 1))
  rw [show i + 1 + (n - (i + 1)) = n by omega] at h4
  have h6 : tblR c n t bf (d + 1) (d ||| 2 ^ i) = some r := by rw [tblR, h0]; exact h4
  obtain ⟨u, h7, h8⟩ := tblR_later h6 (D - (d + 1))
  rw [show d + 1 + (D - (d + 1)) = D by omega] at h7
  exact ⟨u, h7, lxLe_trans h8 (lxLe_trans h5 h3)⟩
/-- what an entry stands for -/
def GoodT (c n : Nat) (t bf : Nat → Nat) (S : Nat) (p : Nat × Nat) : Prop := ∃ A : Nat → Nat, (∀ i, S.testBit i = true → A i < p.1) ∧ (∀ i, S.testBit i = true → ∀ k, (bf i).testBit k = true → S.testBit k = true ∧ A k ≤ A i) ∧ (∀ s, ldN (fun i => S.testBit i && A i == s) t n ≤ c) ∧ ldN (fun i => S.testBit i && A i == p.1 - 1) t n = p.2 ∧ 1 ≤ p.1 ∧ S < 2 ^ n
theorem good_step {S i : Nat} {p : Nat × Nat} (h : GoodT c n t bf S p) (hi : i < n) (hb : S.testBit i = false) (hs : mns (bf i) S = 0) (htc : t i ≤ c) : GoodT c n t bf (S ||| 2 ^ i) (nx c p (t i)) := by
  obtain ⟨A, h1, h2, h3, h4, h5, h6⟩ := h
  have hsub := mns_zero.1 hs
  obtain ⟨s', hs'⟩ : ∃ s', s' = (nx c p (t i)).1 - 1 := ⟨_, rfl⟩
  have hn1 : p.1 ≤ (nx c p (t i)).1 := by unfold nx; split <;> simp
  have hlt : s' < (nx c p (t i)).1 := by omega
  have hge : p.1 - 1 ≤ s' := by omega
  have key : ∀ s, ldN (fun j => (S ||| 2 ^ i).testBit j && (if j = i then s' else A j) == s) t n = ldN (fun j => S.testBit j && A j == s) t n + if s = s' then t i else 0 := fun s => by
    by_cases he : s = s'
    · subst he
      rw [ldN_add (P := fun j => S.testBit j && A j == s) (i := i) (by simp [hb]) (by simp [or_bit']) (fun j hj => by simp [or_bit', hj, Ne.symm hj]), if_pos hi, if_pos rfl]
    · rw [if_neg he, Nat.add_zero]
      refine ldN_same fun j _ => ?_
      by_cases hj : j = i
      · subst hj; simp [hb, Ne.symm he]
      · simp [or_bit', hj, Ne.symm hj]
  have hload : ldN (fun j => S.testBit j && A j == s') t n + t i = (nx c p (t i)).2 ∧ (nx c p (t i)).2 ≤ c := by
    by_cases ho : c < p.2 + t i
    · have e : nx c p (t i) = (p.1 + 1, t i) := by unfold nx; rw [if_pos ho]
      rw [e] at hs' ⊢
      simp only [Nat.add_sub_cancel] at hs' ⊢
      rw [ldN_zero (k := n) (fun j _ => by
        cases hj : S.testBit j with
        | false => rfl
        | true => have := h1 j hj; simp; omega)]
      omega
    · have e : nx c p (t i) = (p.1, p.2 + t i) := by unfold nx; rw [if_neg ho]
      rw [e] at hs' ⊢
      simp only at hs' ⊢
      rw [hs', h4]
      omega
  refine ⟨fun j => if j = i then s' else A j, fun j hj => ?_, fun j hj k hk => ?_, fun s => ?_, ?_, by omega, or_lt' h6 hi⟩
  · simp only
    by_cases he : j = i
    · rw [if_pos he]; exact hlt
    · rw [if_neg he]
      rw [or_bit', decide_eq_false (Ne.symm he), Bool.or_false] at hj
      have := h1 j hj; omega
  · simp only
    by_cases he : j = i
    · subst he
      have hkS := hsub k hk
      have hki : k ≠ j := fun e => by subst e; rw [hb] at hkS; cases hkS
      rw [if_pos rfl, if_neg hki, or_bit', hkS]
      have := h1 k hkS
      exact ⟨rfl, by omega⟩
    · rw [or_bit', decide_eq_false (Ne.symm he), Bool.or_false] at hj
      obtain ⟨a, b⟩ := h2 j hj k hk
      have hki : k ≠ i := fun e => by subst e; rw [hb] at a; cases a
      rw [if_neg he, if_neg hki, or_bit', a]
      exact ⟨rfl, b⟩
  · rw [key s]
    by_cases he : s = s'
    · subst he; rw [if_pos rfl, hload.1]; exact hload.2
    · rw [if_neg he]; exact h3 s
  · rw [← hs', key s', if_pos rfl, hload.1]
theorem upd_good {T : Tbl} {d i : Nat} (htc : ∀ i, i < n → t i ≤ c) (hi : i < n) (h : ∀ e p, T e = some p → GoodT c n t bf e p) : ∀ e p, tblU c t bf T d i e = some p → GoodT c n t bf e p := fun e p he => by
  by_cases hb : d.testBit i = true ∨ mns (bf i) d ≠ 0
  · unfold tblU at he; rw [if_pos hb] at he; exact h e p he
  · by_cases hee : e = d ||| 2 ^ i
    · subst hee
      unfold tblU at he
      rw [if_neg hb] at he
      simp only [not_or, Decidable.not_not] at hb
      cases hq : T d with
      | none => rw [hq] at he; exact h _ p he
      | some q =>
        have hg := good_step (h d q hq) hi (by simpa using hb.1) hb.2 (htc i hi)
        rw [hq] at he
        cases ho : T (d ||| 2 ^ i) with
        | none =>
          rw [ho] at he
          simp at he
          cases he; exact hg
        | some old =>
          rw [ho] at he
          simp only at he
          by_cases hl : lxLt (nx c q (t i)) old
          · rw [if_pos hl, if_pos rfl] at he; cases he; exact hg
          · rw [if_neg hl] at he; exact h _ p he
    · rw [tblU_keep hee] at he; exact h e p he
theorem step_good {T : Tbl} {d : Nat} (htc : ∀ i, i < n → t i ≤ c) (h : ∀ e p, T e = some p → GoodT c n t bf e p) : ∀ i, i ≤ n → ∀ e p, tblS c t bf T d i e = some p → GoodT c n t bf e p
  | 0, _ => h
  | i + 1, hi => upd_good htc (by omega) (step_good htc h i (by omega))
theorem run_good (htc : ∀ i, i < n → t i ≤ c) : ∀ D e p, tblR c n t bf D e = some p → GoodT c n t bf e p
  | 0, e, p, h => by
    rw [tblR] at h
    by_cases he : e = 0
    · subst he
      simp at h; cases h
      exact ⟨fun _ => 0, fun i hi => by simp at hi, fun i hi => by simp at hi, fun s => by rw [ldN_zero fun i _ => by simp]; omega, ldN_zero fun i _ => by simp, by simp, Nat.pow_pos (by omega)⟩
    · simp only [if_neg he] at h; cases h
  | D + 1, e, p, h => by
    rw [tblR] at h
    cases hd : tblR c n t bf D D with
    | none => rw [hd] at h; exact run_good htc D e p h
    | some q =>
      rw [hd] at h
      exact step_good htc (run_good htc D) n (Nat.le_refl _) e p h
/-- stations that keep all -/
def FeasL (c n : Nat) (t bf : Nat → Nat) (K : Nat) (A : Nat → Nat) : Prop := (∀ i, i < n → A i < K) ∧ (∀ i, i < n → ∀ k, (bf i).testBit k = true → A k ≤ A i) ∧ ∀ s, ldN (fun i => A i == s) t n ≤ c
/-- stations of a table's last entry -/
theorem dp_feas (htc : ∀ i, i < n → t i ≤ c) {D : Nat} {p : Nat × Nat} (h : tblR c n t bf D (2 ^ n - 1) = some p) : ∃ A, FeasL c n t bf p.1 A := by
  obtain ⟨A, h1, h2, h3, _, _, _⟩ := run_good htc D _ p h
  have hb : ∀ i, i < n → (2 ^ n - 1).testBit i = true := fun i hi => by rw [full_bit]; exact decide_eq_true hi
  refine ⟨A, fun i hi => h1 i (hb i hi), fun i hi k hk => (h2 i (hb i hi) k hk).2, fun s => ?_⟩
  rw [ldN_same (Q := fun i => (2 ^ n - 1).testBit i && A i == s) fun i hi => by rw [hb i hi]; rfl]
  exact h3 s
/-- the tasks of the stations before s, and of s those before j -/
def prS (A : Nat → Nat) (s j : Nat) : Nat → Bool := fun i => decide (A i < s) || (A i == s && decide (i < j))
theorem dp_reach (hbf : ∀ i, i < n → bf i < 2 ^ i) {K : Nat} {A : Nat → Nat} (hA : FeasL c n t bf K A) : ∀ (s j : Nat), j ≤ n → ∃ p, tblR c n t bf (2 ^ n) (setB (prS A s j) n) = some p ∧ lxLe p (s + 1, ldN (fun i => A i == s && decide (i < j)) t n) := by
  have step : ∀ s, (∃ p, tblR c n t bf (2 ^ n) (setB (prS A s 0) n) = some p ∧ lxLe p (s + 1, 0)) → ∀ j, j ≤ n → ∃ p, tblR c n t bf (2 ^ n) (setB (prS A s j) n) = some p ∧ lxLe p (s + 1, ldN (fun i => A i == s && decide (i < j)) t n) := by
    intro s h0 j
    induction j with
    | zero =>
      intro _
      obtain ⟨p, h1, h2⟩ := h0
      refine ⟨p, h1, ?_⟩
      rw [ldN_zero fun i _ => by simp]
      exact h2
    | succ j ih =>
      intro hj
      obtain ⟨p, h1, h2⟩ := ih (by omega)
      by_cases he : A j = s
      · have hset : setB (prS A s (j + 1)) n = setB (prS A s j) n ||| 2 ^ j := set_ext fun i => by
          rw [or_bit', setB_bit, setB_bit]
          unfold prS
          by_cases hij : j = i
          · subst hij; simp [he, show j < n by omega]
          · by_cases h3 : i < j
            · simp [h3, show i < j + 1 by omega, hij]
            · simp [h3, show ¬ i < j + 1 by omega, hij]
        have hbit : (setB (prS A s j) n).testBit j = false := by rw [setB_bit]; unfold prS; simp [he]
        have hsub : mns (bf j) (setB (prS A s j) n) = 0 := mns_zero.2 fun k hk => by
          have hkj : k < j := by
            rcases Nat.lt_or_ge k j with h | h
            · exact h
            · rw [Nat.testBit_lt_two_pow (Nat.lt_of_lt_of_le (hbf j (by omega)) (Nat.pow_le_pow_right (by omega) h))] at hk; cases hk
          have h3 := hA.2.1 j (by omega) k hk
          rw [setB_bit]
          unfold prS
          simp only [show k < n by omega, decide_true, Bool.true_and, hkj, Bool.and_true, Bool.or_eq_true, decide_eq_true_eq, beq_iff_eq]
          omega
        obtain ⟨q, h3, h4⟩ := tblR_inc (setB_lt _ n) (show j < n by omega) h1 hbit hsub
        rw [← hset] at h3
        refine ⟨q, h3, lxLe_trans h4 (lxLe_trans (nx_mono _ h2) ?_)⟩
        have hl : ldN (fun i => A i == s && decide (i < j + 1)) t n = ldN (fun i => A i == s && decide (i < j)) t n + t j := by
          rw [ldN_add (P := fun i => A i == s && decide (i < j)) (i := j) (by simp) (by simp [he]) (fun i hi => by
            by_cases h3 : i < j
            · simp [h3, show i < j + 1 by omega]
            · simp [h3, show ¬ i < j + 1 by omega]), if_pos (by omega)]
        have hc := hA.2.2 s
        have hle := ldN_le (P := fun i => A i == s && decide (i < j + 1)) (Q := fun i => A i == s) (t := t) (fun i hi => by simp at hi ⊢; exact hi.1) n
        rw [hl] at hle ⊢
        unfold nx
        rw [if_neg (by simp only; omega)]
        exact lxLe_refl _
      · refine ⟨p, ?_, ?_⟩
        · rw [← h1]
          congr 1
          refine set_ext fun i => ?_
          rw [setB_bit, setB_bit]
          unfold prS
          by_cases hij : i = j
          · have he' : (A i == s) = false := by rw [hij]; simpa using he
            rw [he', Bool.false_and, Bool.false_and]
          · by_cases h3 : i < j
            · simp [h3, show i < j + 1 by omega]
            · simp [h3, show ¬ i < j + 1 by omega]
        · rw [ldN_same (Q := fun i => A i == s && decide (i < j)) fun i _ => by
            by_cases hij : i = j
            · subst hij; simp [he]
            · by_cases h3 : i < j
              · simp [h3, show i < j + 1 by omega]
              · simp [h3, show ¬ i < j + 1 by omega]]
          exact h2
  intro s
  induction s with
  | zero =>
    refine step 0 ⟨(1, 0), ?_, lxLe_refl _⟩
    have e : setB (prS A 0 0) n = 0 := set_ext fun i => by rw [setB_bit]; unfold prS; simp
    rw [e]
    have := tblR_low (c := c) (n := n) (t := t) (bf := bf) (Nat.le_refl 0) (2 ^ n)
    rw [Nat.zero_add] at this
    rw [this, tblR]; simp
  | succ s ih =>
    refine step (s + 1) ?_
    obtain ⟨p, h1, h2⟩ := ih n (Nat.le_refl _)
    refine ⟨p, ?_, lxLe_trans h2 (.inl (by simp))⟩
    rw [← h1]
    congr 1
    refine set_ext fun i => ?_
    rw [setB_bit, setB_bit]
    unfold prS
    by_cases hi : i < n
    · simp only [hi, decide_true, Bool.true_and, Nat.not_lt_zero, decide_false, Bool.and_false, Bool.or_false, Bool.and_true]
      rw [Bool.eq_iff_iff]
      simp only [decide_eq_true_eq, Bool.or_eq_true, beq_iff_eq]
      omega
    · simp [hi]
/-- no stations that keep all are fewer than the table's -/
theorem dp_least (hbf : ∀ i, i < n → bf i < 2 ^ i) (n1 : 1 ≤ n) {K : Nat} {A : Nat → Nat} (hA : FeasL c n t bf K A) : ∃ p, tblR c n t bf (2 ^ n) (2 ^ n - 1) = some p ∧ p.1 ≤ K := by
  have hK : 0 < K := by have := hA.1 0 n1; omega
  obtain ⟨p, h1, h2⟩ := dp_reach hbf hA (K - 1) n (Nat.le_refl _)
  have e : setB (prS A (K - 1) n) n = 2 ^ n - 1 := set_ext fun i => by
    rw [setB_bit, full_bit]
    by_cases hi : i < n
    · have := hA.1 i hi
      unfold prS
      simp only [hi, decide_true, Bool.true_and, Bool.and_true, Bool.or_eq_true, decide_eq_true_eq, beq_iff_eq]
      omega
    · simp [hi]
  rw [e] at h1
  refine ⟨p, h1, ?_⟩
  unfold lxLe at h2
  simp only at h2
  omega
/-- each task at a station of its own -/
theorem feas_own (hbf : ∀ i, i < n → bf i < 2 ^ i) (htc : ∀ i, i < n → t i ≤ c) : FeasL c n t bf n fun i => i := by
  refine ⟨fun i hi => hi, fun i hi k hk => ?_, fun s => ?_⟩
  · rcases Nat.lt_or_ge k i with h | h
    · simp only; omega
    · rw [Nat.testBit_lt_two_pow (Nat.lt_of_lt_of_le (hbf i hi) (Nat.pow_le_pow_right (by omega) h))] at hk; cases hk
  · have key : ∀ k, ldN (fun i => i == s) t k = if s < k then t s else 0 := fun k => by
      induction k with
      | zero => simp [ldN]
      | succ k ih =>
        rw [ldN, ih]
        by_cases h : k = s
        · subst h; simp
        · by_cases h2 : s < k
          · simp [h, h2, show s < k + 1 by omega]
          · simp [h, h2, show ¬ s < k + 1 by omega]
    rw [key]
    by_cases h : s < n
    · rw [if_pos h]; exact htc s h
    · rw [if_neg h]; omega
/-- the fewest stations: none is empty -/
theorem no_empty (ht : ∀ i, i < n → 1 ≤ t i) {K : Nat} {A : Nat → Nat} (hl : ∀ K' A', FeasL c n t bf K' A' → K ≤ K') (n1 : 1 ≤ n) (hbl : ∀ i, i < n → ∀ k, (bf i).testBit k = true → k < n) (hA : FeasL c n t bf K A) {s : Nat} (hs : s < K) : 0 < ldN (fun i => A i == s) t n := by
  rcases Nat.eq_zero_or_pos (ldN (fun i => A i == s) t n) with h | h
  · exfalso
    have hne : ∀ i, i < n → A i ≠ s := fun i hi e => by
      have := ldN_pos (P := fun i => A i == s) (i := i) (by simp [e]) (ht i hi) hi
      omega
    have hK2 : 1 < K := by
      have h0 := hA.1 0 n1
      have h1 := hne 0 n1
      omega
    have := hl (K - 1) (fun i => if s < A i then A i - 1 else A i) ⟨fun i hi => by
        have h0 := hA.1 i hi
        have h1 := hne i hi
        simp only; split <;> omega, fun i hi k hk => by
        have h0 := hA.2.1 i hi k hk
        have h1 := hne i hi
        have h2 := hne k (hbl i hi k hk)
        simp only; split <;> split <;> omega, fun s' => by
        refine Nat.le_trans ?_ (hA.2.2 (if s' < s then s' else s' + 1))
        rw [ldN_same (Q := fun i => A i == if s' < s then s' else s' + 1) fun i hi => by
          have h1 := hne i hi
          rw [Bool.eq_iff_iff]
          simp only [beq_iff_eq]
          split <;> split <;> omega]
        exact Nat.le_refl _⟩
    omega
  · exact h
/-- all loads together -/
def sumN (f : Nat → Nat) : Nat → Nat
  | 0 => 0
  | k + 1 => sumN f k + f k
theorem sumN_le {f : Nat → Nat} {c : Nat} (h : ∀ s, f s ≤ c) : ∀ K, sumN f K ≤ K * c
  | 0 => by simp [sumN]
  | K + 1 => by rw [sumN, Nat.succ_mul]; exact Nat.add_le_add (sumN_le h K) (h K)
theorem sumN_one {x a : Nat} : ∀ {K}, a < K → sumN (fun s => if a = s then x else 0) K = x
  | 0, h => by omega
  | K + 1, h => by
    rw [sumN]
    by_cases hk : a = K
    · subst hk
      have : ∀ k, k ≤ a → sumN (fun s => if a = s then x else 0) k = 0 := fun k => by
        induction k with
        | zero => intro _; rfl
        | succ k ih => intro hk; rw [sumN, ih (by omega), if_neg (by omega)]
      rw [this a (Nat.le_refl _), if_pos rfl]; omega
    · rw [sumN_one (by omega), if_neg hk]; rfl
theorem sumN_add (f g : Nat → Nat) : ∀ K, sumN (fun s => f s + g s) K = sumN f K + sumN g K
  | 0 => rfl
  | K + 1 => by rw [sumN, sumN, sumN, sumN_add f g K]; omega
theorem sum_loads {A : Nat → Nat} {K : Nat} : ∀ {n}, (∀ i, i < n → A i < K) → sumN (fun s => ldN (fun i => A i == s) t n) K = sumN t n
  | 0, _ => by
    have : ∀ k, sumN (fun s => ldN (fun i => A i == s) t 0) k = 0 := fun k => by
      induction k with
      | zero => rfl
      | succ k ih => rw [sumN, ih]; rfl
    rw [this]; rfl
  | n + 1, h => by
    have e : (fun s => ldN (fun i => A i == s) t (n + 1)) = fun s => ldN (fun i => A i == s) t n + if A n = s then t n else 0 := funext fun s => by
      rw [ldN]
      by_cases hs : A n = s
      · simp [hs]
      · simp [hs]
    rw [e, sumN_add, sum_loads fun i hi => h i (by omega), sumN_one (h n (by omega))]
    rfl
theorem sumN_ge {f : Nat → Nat} : ∀ {K}, (∀ s, s < K → 1 ≤ f s) → K ≤ sumN f K
  | 0, _ => Nat.zero_le _
  | K + 1, h => by
    have h1 := sumN_ge (f := f) (K := K) fun s hs => h s (by omega)
    have h2 := h K (by omega)
    rw [sumN]; omega
theorem sumN_one' : ∀ k, sumN (fun _ => 1) k = k
  | 0 => rfl
  | k + 1 => by rw [sumN, sumN_one' k]
theorem full_le {A : Nat → Nat} {K n : Nat} (hA : ∀ i, i < n → A i < K) (h : ∀ s, s < K → 1 ≤ ldN (fun i => A i == s) t n) : K ≤ n := by
  have h1 : ∀ s, s < K → 1 ≤ ldN (fun i => A i == s) (fun _ => 1) n := fun s hs => by
    obtain ⟨i, hi, hb⟩ := ldN_some (h s hs)
    exact ldN_pos (P := fun i => A i == s) (t := fun _ => 1) hb (by omega) hi
  have h2 := sumN_ge h1
  rw [sum_loads hA, sumN_one'] at h2
  exact h2
theorem bound_le {s c K : Nat} (hc : 1 ≤ c) (h : s ≤ K * c) : (s + c - 1) / c ≤ K := by
  have : (s + c - 1) / c < K + 1 := by
    rw [Nat.div_lt_iff_lt_mul (by omega), Nat.succ_mul]
    omega
  omega
theorem feas_total {K : Nat} {A : Nat → Nat} (hA : FeasL c n t bf K A) : sumN t n ≤ K * c := by
  rw [← sum_loads (t := t) hA.1]
  exact sumN_le hA.2.2 K
end
end Go.Proofs.Ytkaopdpdfbkchaa.Plain
