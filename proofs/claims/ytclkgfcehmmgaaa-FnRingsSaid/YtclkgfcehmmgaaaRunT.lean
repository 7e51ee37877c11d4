/- Rises along arcs from any start: where rounds come to an end, as many rounds as there are nodes that can rise are enough. No program stands here. -/
import Derived.Test.YtclkgfcehmmgaaaBellT
namespace Go.Proofs.Ytclkgfcehmmgaaa.Plain

def itA (az : List ArcT) (o : List Int) : Nat → List Int
  | 0 => o
  | k + 1 => rndA az (itA az o k)
theorem itA_len (az : List ArcT) (o : List Int) (k : Nat) : (itA az o k).length = o.length := by
  induction k with
  | zero => rfl
  | succ k ih => rw [itA, rndA_len, ih]
theorem itA_ge (az : List ArcT) (o : List Int) (k v : Nat) : o.getD v 0 ≤ (itA az o k).getD v 0 := by
  induction k with
  | zero => exact Int.le_refl _
  | succ k ih => rw [itA]; exact Int.le_trans ih (rndA_ge az _ v)
theorem itA_le {az : List ArcT} {o : List Int} {F : Nat → Int} (h0 : ∀ v, o.getD v 0 ≤ F v) (ha : closedA az F) (k v : Nat) : (itA az o k).getD v 0 ≤ F v := by
  induction k generalizing v with
  | zero => exact h0 v
  | succ k ih => rw [itA]; exact rndA_le ih ha v
theorem relA_other {t : List Int} {a : ArcT} {v : Nat} (h : a.2.1 ≠ v) : (relA t a).getD v 0 = t.getD v 0 := by
  unfold relA
  split
  · rw [getD_setI, if_neg (fun e => h e.1)]
  · rfl
theorem rndA_other {az : List ArcT} {t : List Int} {v : Nat} (h : ∀ a ∈ az, a.2.1 ≠ v) : (rndA az t).getD v 0 = t.getD v 0 := by
  induction az generalizing t with
  | nil => rfl
  | cons a az ih =>
    rw [rndA, List.foldl_cons]
    exact (ih (fun b hb => h b (by simp [hb]))).trans (relA_other (h a (by simp)))
theorem itA_other {az : List ArcT} {o : List Int} {v : Nat} (h : ∀ a ∈ az, a.2.1 ≠ v) (k : Nat) : (itA az o k).getD v 0 = o.getD v 0 := by
  induction k with
  | zero => rfl
  | succ k ih => rw [itA, rndA_other h, ih]
theorem ext_getD {a b : List Int} (hl : a.length = b.length) (h : ∀ v, v < a.length → a.getD v 0 = b.getD v 0) : a = b := by
  apply List.ext_getElem?
  intro v
  by_cases hv : v < a.length
  · have := h v hv
    simp only [List.getD_eq_getElem?_getD] at this
    rw [List.getElem?_eq_getElem hv, List.getElem?_eq_getElem (by omega)] at this ⊢
    simpa using this
  · rw [List.getElem?_eq_none (by omega), List.getElem?_eq_none (by omega)]
/-- nodes b .. b + n - 1 alone can rise: n rounds are enough, if any number is -/
theorem bell2 {az : List ArcT} {o : List Int} {b n N : Nat} (hv : ∀ a ∈ az, a.2.1 < o.length ∧ b ≤ a.2.1 ∧ a.2.1 < b + n) (hN : rndA az (itA az o N) = itA az o N) : rndA az (itA az o n) = itA az o n := by
  obtain ⟨F, hF⟩ : ∃ F : Nat → Int, F = fun v => (itA az o N).getD v 0 := ⟨_, rfl⟩
  have hc : closedA az F := by rw [hF]; exact fix_closed (fun a ha => by rw [itA_len]; exact (hv a ha).1) hN
  have h0 : ∀ v, o.getD v 0 ≤ F v := fun v => by rw [hF]; exact itA_ge az o N v
  have least : ∀ G : Nat → Int, (∀ v, o.getD v 0 ≤ G v) → closedA az G → ∀ v, F v ≤ G v := fun G hg hcG v => by rw [hF]; exact itA_le hg hcG N v
  have hle : ∀ k v, (itA az o k).getD v 0 ≤ F v := fun k v => itA_le h0 hc k v
  have more : ∀ k, (∀ v, (itA az o k).getD v 0 = F v) ∨ ∃ a ∈ az, (itA az o k).getD a.1 0 = F a.1 ∧ ¬ (itA az o k).getD a.2.1 0 = F a.2.1 ∧ F a.1 + a.2.2 = F a.2.1 := by
    intro k
    by_cases hx : ∃ a ∈ az, (itA az o k).getD a.1 0 = F a.1 ∧ ¬ (itA az o k).getD a.2.1 0 = F a.2.1 ∧ F a.1 + a.2.2 = F a.2.1
    · exact .inr hx
    · left
      have hG := least (fun v => if (itA az o k).getD v 0 = F v then F v else F v - 1) (fun v => by
        (try dsimp only)
        split
        · exact h0 v
        · rename_i hne
          have h1 := hle k v
          have h2 := itA_ge az o k v
          omega) (fun a ha => by
        have h1 := hc a ha
        (try dsimp only)
        by_cases hu : (itA az o k).getD a.1 0 = F a.1
        · rw [if_pos hu]
          by_cases hw : (itA az o k).getD a.2.1 0 = F a.2.1
          · rw [if_pos hw]; exact h1
          · rw [if_neg hw]
            have : ¬ F a.1 + a.2.2 = F a.2.1 := fun e => hx ⟨a, ha, hu, hw, e⟩
            omega
        · rw [if_neg hu]
          split <;> omega)
      intro v
      have h1 := hG v
      (try dsimp only at h1)
      split at h1
      · assumption
      · omega
  have cnt : ∀ k, (∀ v, (itA az o k).getD v 0 = F v) ∨ k ≤ (List.range n).countP (fun y => decide ((itA az o k).getD (b + y) 0 = F (b + y))) := by
    intro k
    induction k with
    | zero => right; omega
    | succ k ih =>
      rcases more k with h | ⟨a, ha, hu, hw, he⟩
      · left
        intro v
        have h1 := rndA_ge az (itA az o k) v
        have h2 := hle (k + 1) v
        rw [itA] at h2 ⊢
        have := h v
        omega
      · rcases ih with h | ih
        · exact absurd (h a.2.1) hw
        · right
          have hf := arc_final (t := itA az o k) (fun a ha => by rw [itA_len]; exact (hv a ha).1) (hle k) hc ha hu he
          obtain ⟨_, b1, b2⟩ := hv a ha
          have := count_less (l := List.range n) (p := fun y => decide ((itA az o k).getD (b + y) 0 = F (b + y))) (q := fun y => decide ((itA az o (k + 1)).getD (b + y) 0 = F (b + y))) (fun x _ hp => by
            have h1 := rndA_ge az (itA az o k) (b + x)
            have h2 := hle (k + 1) (b + x)
            have h3 := of_decide_eq_true hp
            rw [itA] at h2 ⊢
            exact decide_eq_true (by omega)) (y := a.2.1 - b) (List.mem_range.2 (by omega)) (decide_eq_false (by rw [show b + (a.2.1 - b) = a.2.1 by omega]; exact hw)) (decide_eq_true (by rw [show b + (a.2.1 - b) = a.2.1 by omega]; exact hf))
          omega
  have hall : ∀ v, (itA az o n).getD v 0 = F v := by
    rcases cnt n with h | h
    · exact h
    · intro v
      by_cases hin : b ≤ v ∧ v < b + n
      · have h1 : (List.range n).countP (fun y => decide ((itA az o n).getD (b + y) 0 = F (b + y))) = (List.range n).length := by
          have := List.countP_le_length (l := List.range n) (p := fun y => decide ((itA az o n).getD (b + y) 0 = F (b + y)))
          simp only [List.length_range] at this ⊢
          omega
        have := List.countP_eq_length.1 h1 (v - b) (List.mem_range.2 (by omega))
        rw [show b + (v - b) = v by omega] at this
        simpa using this
      · have hne : ∀ a ∈ az, a.2.1 ≠ v := fun a ha e => by have := hv a ha; omega
        rw [hF]
        show _ = (itA az o N).getD v 0
        rw [itA_other hne, itA_other hne]
  have heq : itA az o n = itA az o N := ext_getD (by rw [itA_len, itA_len]) (fun v _ => by rw [hall v, hF])
  rw [heq]
  exact hN

/-! ## rounds come to an end where they are bounded -/
def sumI (l : List Int) : Int := l.foldr (· + ·) 0
theorem sumI_le {a b : List Int} (hl : a.length = b.length) (h : ∀ v, v < a.length → a.getD v 0 ≤ b.getD v 0) : sumI a ≤ sumI b ∧ (a ≠ b → sumI a < sumI b) := by
  induction a generalizing b with
  | nil => cases b with
    | nil => exact ⟨Int.le_refl _, fun h => absurd rfl h⟩
    | cons => simp at hl
  | cons x a ih => cases b with
    | nil => simp at hl
    | cons y b =>
      have h1 := h 0 (by simp)
      simp only [List.getD_cons_zero] at h1
      obtain ⟨i1, i2⟩ := ih (b := b) (by simpa using hl) (fun v hv => by have := h (v + 1) (by simpa using hv); simpa using this)
      simp only [sumI, List.foldr_cons] at i1 i2 ⊢
      refine ⟨by omega, fun hne => ?_⟩
      by_cases he : x = y
      · subst he
        have := i2 (fun e => hne (by rw [e]))
        omega
      · omega
theorem sumI_bd {a : List Int} {M : Int} (h : ∀ v, v < a.length → a.getD v 0 ≤ M) : sumI a ≤ a.length * M := by
  induction a with
  | nil => simp [sumI]
  | cons x a ih =>
    have h1 := h 0 (by simp)
    simp only [List.getD_cons_zero] at h1
    have := ih (fun v hv => by have := h (v + 1) (by simpa using hv); simpa using this)
    simp only [sumI, List.foldr_cons, List.length_cons] at this ⊢
    push_cast
    rw [Int.add_mul]
    omega
/-- the rounds have an end, where a bound is kept -/
theorem fix_exists {az : List ArcT} {o : List Int} {G : Nat → Int} {M : Int} (hM : ∀ v, G v ≤ M) (h0 : ∀ v, o.getD v 0 ≤ G v) (ha : closedA az G) : ∃ N, rndA az (itA az o N) = itA az o N := by
  have step : ∀ k, (∃ N, rndA az (itA az o N) = itA az o N) ∨ sumI o + k ≤ sumI (itA az o k) := by
    intro k
    induction k with
    | zero => right; simp [itA]
    | succ k ih =>
      rcases ih with h | ih
      · exact .inl h
      · by_cases e : rndA az (itA az o k) = itA az o k
        · exact .inl ⟨k, e⟩
        · right
          have := (sumI_le (a := itA az o k) (b := rndA az (itA az o k)) (rndA_len _ _).symm (fun v _ => rndA_ge az _ v)).2 (fun h => e h.symm)
          rw [itA]
          push_cast
          omega
  rcases step (o.length * M - sumI o + 1).toNat with h | h
  · exact h
  · exfalso
    have hb := sumI_bd (a := itA az o (o.length * M - sumI o + 1).toNat) (M := M) (fun v _ => Int.le_trans (itA_le h0 ha _ v) (hM v))
    rw [itA_len] at hb
    omega
theorem itA_stay {az : List ArcT} {o : List Int} {k : Nat} (h : rndA az (itA az o k) = itA az o k) (d : Nat) : itA az o (k + d) = itA az o k := by
  induction d with
  | zero => rfl
  | succ d ih => rw [← Nat.add_assoc, itA, ih, h]
/-- where it stops, it is as behind n rounds -/
theorem stop_same {az : List ArcT} {o : List Int} {n j : Nat} (hn : rndA az (itA az o n) = itA az o n) (hj : rndA az (itA az o j) = itA az o j) : itA az o j = itA az o n := by
  rw [← itA_stay hj n, ← itA_stay hn j, Nat.add_comm]
/-- the arcs of one list, in part -/
theorem rndA_app1 (az : List ArcT) (t : List Int) (a : ArcT) : rndA (az ++ [a]) t = relA (rndA az t) a := by simp [rndA]
end Go.Proofs.Ytclkgfcehmmgaaa.Plain
