/- Rounds of rises, arc by arc, as both sides run them, in plain numbers. No program stands here. -/
import Derived.Test.YtclkgfcehmmgaaaBellT
import Derived.Test.YtclkgfcehmmgaaaRingB
namespace Go.Proofs.Ytclkgfcehmmgaaa.Plain

/-- the state behind the first j arcs of round r -/
def partB (as : List ArcT) (r : Nat) (S : BackS) (j : Nat) : BackS := ((idxA as).take j).foldl (relB r) S
/-- the node raised last among the first j arcs of round r (-1: none) -/
def chB (as : List ArcT) (r : Nat) (S : BackS) : Nat → Int
  | 0 => -1
  | j + 1 => match as[j]? with
    | some a => if (partB as r S j).t.getD a.2.1 0 < (partB as r S j).t.getD a.1 0 + a.2.2 then (a.2.1 : Int) else chB as r S j
    | none => chB as r S j
theorem idxA_at {as : List ArcT} {j : Nat} {a : ArcT} (h : as[j]? = some a) : (idxA as)[j]? = some (j, a) := by
  simp [idxA, h]
theorem idxA_len (as : List ArcT) : (idxA as).length = as.length := by simp [idxA]
theorem partB_succ {as : List ArcT} {r : Nat} {S : BackS} {j : Nat} {a : ArcT} (h : as[j]? = some a) : partB as r S (j + 1) = relB r (partB as r S j) (j, a) := by
  rw [partB, List.take_add_one, idxA_at h, List.foldl_append]; rfl
theorem partB_all (as : List ArcT) (r : Nat) (S : BackS) : partB as r S as.length = rndB as r S := by
  rw [partB, List.take_of_length_le (by rw [idxA_len]; exact Nat.le_refl _)]; rfl
theorem partB_up {as : List ArcT} {r : Nat} {S : BackS} {j : Nat} {a : ArcT} (h : as[j]? = some a) (hlt : (partB as r S j).t.getD a.2.1 0 < (partB as r S j).t.getD a.1 0 + a.2.2) :
    (partB as r S (j + 1)).t = (partB as r S j).t.set a.2.1 ((partB as r S j).t.getD a.1 0 + a.2.2) ∧ (partB as r S (j + 1)).c = (partB as r S j).c.set a.2.1 (j : Int) ∧ chB as r S (j + 1) = a.2.1 := by
  rw [partB_succ h, relB, if_pos hlt]
  refine ⟨rfl, rfl, ?_⟩
  rw [chB, h]
  simp only
  rw [if_pos hlt]
theorem partB_no {as : List ArcT} {r : Nat} {S : BackS} {j : Nat} {a : ArcT} (h : as[j]? = some a) (hlt : ¬ (partB as r S j).t.getD a.2.1 0 < (partB as r S j).t.getD a.1 0 + a.2.2) :
    partB as r S (j + 1) = partB as r S j ∧ chB as r S (j + 1) = chB as r S j := by
  rw [partB_succ h, relB, if_neg hlt]
  refine ⟨rfl, ?_⟩
  rw [chB, h]
  simp only
  rw [if_neg hlt]
/-- no change: the state is as it was; a change: the node is marked with the round -/
theorem chB_ok {as : List ArcT} {n r : Nat} {S : BackS} (hv : ∀ a ∈ as, a.1 < n ∧ a.2.1 < n) (hm : S.m.length = n) (j : Nat) (hj : j ≤ as.length) :
    (partB as r S j).m.length = n ∧ ((chB as r S j = -1 ∧ partB as r S j = S) ∨ ∃ v : Nat, v < n ∧ chB as r S j = v ∧ (partB as r S j).m.getD v 0 = r + 1) := by
  induction j with
  | zero => exact ⟨hm, .inl ⟨rfl, rfl⟩⟩
  | succ j ih =>
    obtain ⟨h1, h2⟩ := ih (by omega)
    have e := List.getElem?_eq_getElem (show j < as.length by omega)
    have hb := hv _ (List.getElem_mem (show j < as.length by omega))
    by_cases hlt : (partB as r S j).t.getD as[j].2.1 0 < (partB as r S j).t.getD as[j].1 0 + as[j].2.2
    · have hu := (partB_up e hlt).2.2
      have hmm : (partB as r S (j + 1)).m = (partB as r S j).m.set as[j].2.1 (r + 1) := by rw [partB_succ e, relB, if_pos hlt]
      refine ⟨by rw [hmm]; simpa using h1, .inr ⟨_, hb.2, hu, ?_⟩⟩
      rw [hmm, getD_setN, if_pos ⟨rfl, by omega⟩]
    · have hu := partB_no e hlt
      rw [hu.1, hu.2]
      exact ⟨h1, h2⟩
/-- bounds of the times -/
def bdA (t : List Int) (M : Int) : Prop := ∀ v, 0 ≤ t.getD v 0 ∧ t.getD v 0 ≤ M
theorem relA_bd {t : List Int} {a : ArcT} {M R : Int} (hR : 0 ≤ R) (ha : a.2.2 ≤ R) (h : bdA t M) : bdA (relA t a) (M + R) := by
  intro v
  refine ⟨Int.le_trans (h v).1 (relA_ge t a v), ?_⟩
  unfold relA
  split
  · rw [getD_setI]
    split
    · have := (h a.1).2; omega
    · have := (h v).2; omega
  · have := (h v).2; omega
theorem partB_bd {as : List ArcT} {r : Nat} {S : BackS} {M R : Int} (hR : 0 ≤ R) (ha : ∀ a ∈ as, a.2.2 ≤ R) (h : bdA S.t M) (j : Nat) (hj : j ≤ as.length) : bdA (partB as r S j).t (M + j * R) := by
  induction j with
  | zero => intro v; have := h v; simpa [partB] using this
  | succ j ih =>
    have e := List.getElem?_eq_getElem (show j < as.length by omega)
    rw [partB_succ e, relB_t]
    have := relA_bd hR (ha _ (List.getElem_mem (show j < as.length by omega))) (ih (by omega))
    rw [show M + ((j + 1 : Nat) : Int) * R = M + j * R + R by push_cast; rw [Int.add_mul]; omega]
    exact this
theorem tmB_bd {as : List ArcT} {n : Nat} {R : Int} (hR : 0 ≤ R) (ha : ∀ a ∈ as, a.2.2 ≤ R) (k : Nat) : bdA (tmB as n k).t (k * (as.length * R)) := by
  induction k with
  | zero => intro v; rw [tmB_t, tmA, zeroA]; simp
  | succ k ih =>
    rw [tmB, ← partB_all]
    have := partB_bd (r := k) hR ha ih as.length (Nat.le_refl _)
    rw [show ((k + 1 : Nat) : Int) * (as.length * R) = k * (as.length * R) + as.length * R by push_cast; rw [Int.add_mul]; omega]
    exact this
theorem rndB_len {as : List ArcT} {n r : Nat} {S : BackS} (h1 : S.t.length = n) (h2 : S.c.length = n) (j : Nat) : (partB as r S j).t.length = n ∧ (partB as r S j).c.length = n := by
  unfold partB
  generalize (idxA as).take j = l
  induction l generalizing S with
  | nil => exact ⟨h1, h2⟩
  | cons x l ih =>
    rw [List.foldl_cons]
    apply ih
    · unfold relB; split <;> simpa using h1
    · unfold relB; split <;> simpa using h2
theorem tmB_len (as : List ArcT) (n k : Nat) : (tmB as n k).t.length = n ∧ (tmB as n k).c.length = n ∧ (tmB as n k).m.length = n := by
  induction k with
  | zero => simp [tmB]
  | succ k ih =>
    have h := rndB_len (as := as) (r := k) ih.1 ih.2.1 as.length
    rw [partB_all] at h
    refine ⟨h.1, h.2, ?_⟩
    rw [tmB, rndB]
    generalize as.zipIdx.map (fun y => (y.2, y.1)) = l
    have h3 := ih.2.2
    clear h ih
    generalize tmB as n k = S at *
    induction l generalizing S with
    | nil => exact h3
    | cons x l ih2 =>
      rw [List.foldl_cons]
      apply ih2
      unfold relB; split <;> simpa using h3
/-- the times at last are reached -/
def fixA (as : List ArcT) (n : Nat) : Bool := decide (rndA as (tmA as n (n - 1)) = tmA as n (n - 1))
theorem tmA_stay {as : List ArcT} {n k : Nat} (h : rndA as (tmA as n k) = tmA as n k) (d : Nat) : tmA as n (k + d) = tmA as n k := by
  induction d with
  | zero => rfl
  | succ d ih => rw [← Nat.add_assoc, tmA, ih, h]
theorem fix_of {as : List ArcT} {n k : Nat} (hn : 1 ≤ n) (hv : ∀ a ∈ as, a.1 < n ∧ a.2.1 < n) (h : rndA as (tmA as n k) = tmA as n k) : fixA as n = true ∧ tmA as n k = tmA as n (n - 1) := by
  have hb := bell hn hv h
  refine ⟨decide_eq_true hb, ?_⟩
  have e1 := tmA_stay h (n - 1)
  have e2 := tmA_stay hb k
  rw [← e1, ← e2, Nat.add_comm]
/-- a round that changed nothing -/
theorem fix_round {as : List ArcT} {n r : Nat} (hn : 1 ≤ n) (hv : ∀ a ∈ as, a.1 < n ∧ a.2.1 < n) (h : chB as r (tmB as n r) as.length = -1) : fixA as n = true ∧ (tmB as n r).t = tmA as n (n - 1) ∧ (tmB as n (r + 1)).t = tmA as n (n - 1) := by
  have hc := (chB_ok (r := r) hv (tmB_len as n r).2.2 as.length (Nat.le_refl _)).2
  rcases hc with ⟨_, hc⟩ | ⟨v, _, hc, _⟩
  · rw [partB_all] at hc
    have e : rndA as (tmA as n r) = tmA as n r := by rw [← tmB_t, ← rndB_t as r, hc]
    obtain ⟨f1, f2⟩ := fix_of hn hv e
    exact ⟨f1, by rw [tmB_t]; exact f2, by rw [tmB_t, tmA, e]; exact f2⟩
  · omega
/-- a change in round n (the last of n + 1 of them, or of n): no fix ahead of it -/
theorem nofix_round {as : List ArcT} {n r : Nat} (hv : ∀ a ∈ as, a.1 < n ∧ a.2.1 < n) (hr : n - 1 ≤ r) (h : chB as r (tmB as n r) as.length ≠ -1) : fixA as n = false := by
  rw [fixA, decide_eq_false_iff_not]
  intro e
  have e2 := tmA_stay e (r - (n - 1))
  rw [show n - 1 + (r - (n - 1)) = r by omega] at e2
  have e3 : rndA as (tmA as n r) = tmA as n r := by rw [e2]; exact e
  -- no arc rises
  have hcl := fix_closed (fun a ha => by rw [tmA_len]; exact (hv a ha).2) e3
  have hall : ∀ j, j ≤ as.length → partB as r (tmB as n r) j = tmB as n r ∧ chB as r (tmB as n r) j = -1 := by
    intro j
    induction j with
    | zero => intro _; exact ⟨rfl, rfl⟩
    | succ j ih =>
      intro hj
      obtain ⟨i1, i2⟩ := ih (by omega)
      have eg := List.getElem?_eq_getElem (show j < as.length by omega)
      have hk := hcl _ (List.getElem_mem (show j < as.length by omega))
      simp only at hk
      have := partB_no (r := r) (S := tmB as n r) eg (by rw [i1, tmB_t]; omega)
      rw [this.1, this.2]
      exact ⟨i1, i2⟩
  exact h (hall _ (Nat.le_refl _)).2
/-- the changed node of the last round -/
theorem last_round {as : List ArcT} {n r : Nat} (hv : ∀ a ∈ as, a.1 < n ∧ a.2.1 < n) (h : chB as r (tmB as n r) as.length ≠ -1) : ∃ v : Nat, v < n ∧ chB as r (tmB as n r) as.length = v ∧ (tmB as n (r + 1)).m.getD v 0 = r + 1 := by
  rcases (chB_ok (r := r) hv (tmB_len as n r).2.2 as.length (Nat.le_refl _)).2 with ⟨hc, _⟩ | ⟨v, h1, h2, h3⟩
  · exact absurd hc h
  · exact ⟨v, h1, h2, by rw [partB_all] at h3; exact h3⟩
end Go.Proofs.Ytclkgfcehmmgaaa.Plain
