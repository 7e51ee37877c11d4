/- Rises along arcs, round by round, in plain numbers: where a round changes nothing, no more than n - 1 rounds changed something. No program stands here. -/
import Derived.Test.YtclkgfcehmmgaaaPlain
namespace Go.Proofs.Ytclkgfcehmmgaaa.Plain

/-- an arc: from, to, rise -/
abbrev ArcT := Nat × Nat × Int
def relA (t : List Int) (a : ArcT) : List Int := if t.getD a.2.1 0 < t.getD a.1 0 + a.2.2 then t.set a.2.1 (t.getD a.1 0 + a.2.2) else t
def rndA (as : List ArcT) (t : List Int) : List Int := as.foldl relA t
def tmA (as : List ArcT) (n : Nat) : Nat → List Int
  | 0 => List.replicate n 0
  | k + 1 => rndA as (tmA as n k)
def closedA (as : List ArcT) (F : Nat → Int) : Prop := ∀ a ∈ as, F a.1 + a.2.2 ≤ F a.2.1
theorem getD_setI {l : List Int} {r r' : Nat} {y : Int} : (l.set r y).getD r' 0 = if r = r' ∧ r < l.length then y else l.getD r' 0 := by
  simp only [List.getD_eq_getElem?_getD, List.getElem?_set]
  by_cases h : r = r'
  · subst h
    by_cases h2 : r < l.length
    · simp [h2]
    · simp [h2]
  · simp [h]
theorem relA_len (t : List Int) (a : ArcT) : (relA t a).length = t.length := by unfold relA; split <;> simp
theorem rndA_len (as : List ArcT) (t : List Int) : (rndA as t).length = t.length := by
  induction as generalizing t with
  | nil => rfl
  | cons a as ih => rw [rndA, List.foldl_cons]; exact (ih _).trans (relA_len t a)
theorem tmA_len (as : List ArcT) (n k : Nat) : (tmA as n k).length = n := by
  induction k with
  | zero => simp [tmA]
  | succ k ih => rw [tmA, rndA_len, ih]
theorem relA_ge (t : List Int) (a : ArcT) (v : Nat) : t.getD v 0 ≤ (relA t a).getD v 0 := by
  unfold relA
  split
  · rename_i h
    rw [getD_setI]
    split
    · rename_i e; rw [← e.1]; omega
    · omega
  · omega
theorem rndA_ge (as : List ArcT) (t : List Int) (v : Nat) : t.getD v 0 ≤ (rndA as t).getD v 0 := by
  induction as generalizing t with
  | nil => exact Int.le_refl _
  | cons a as ih =>
    rw [rndA, List.foldl_cons]
    exact Int.le_trans (relA_ge t a v) (ih _)
theorem relA_le {t : List Int} {a : ArcT} {F : Nat → Int} (ht : ∀ v, t.getD v 0 ≤ F v) (ha : F a.1 + a.2.2 ≤ F a.2.1) (v : Nat) : (relA t a).getD v 0 ≤ F v := by
  unfold relA
  split
  · rw [getD_setI]
    split
    · rename_i e
      have := ht a.1
      rw [← e.1]; omega
    · exact ht v
  · exact ht v
theorem rndA_le {as : List ArcT} {t : List Int} {F : Nat → Int} (ht : ∀ v, t.getD v 0 ≤ F v) (ha : closedA as F) (v : Nat) : (rndA as t).getD v 0 ≤ F v := by
  induction as generalizing t with
  | nil => exact ht v
  | cons a as ih =>
    rw [rndA, List.foldl_cons]
    exact ih (fun v => relA_le ht (ha a (by simp)) v) (fun b hb => ha b (by simp [hb]))
theorem zeroA (n v : Nat) : (List.replicate n (0 : Int)).getD v 0 = 0 := by
  rw [List.getD_eq_getElem?_getD, List.getElem?_replicate]; split <;> rfl
theorem tmA_nonneg (as : List ArcT) (n k v : Nat) : 0 ≤ (tmA as n k).getD v 0 := by
  induction k with
  | zero => rw [tmA, zeroA]; omega
  | succ k ih => rw [tmA]; exact Int.le_trans ih (rndA_ge as _ v)
theorem tmA_le {as : List ArcT} {n : Nat} {F : Nat → Int} (h0 : ∀ v, 0 ≤ F v) (ha : closedA as F) (k v : Nat) : (tmA as n k).getD v 0 ≤ F v := by
  induction k generalizing v with
  | zero => rw [tmA, zeroA]; exact h0 v
  | succ k ih => rw [tmA]; exact rndA_le ih ha v
theorem rndA_app (l1 l2 : List ArcT) (t : List Int) : rndA (l1 ++ l2) t = rndA l2 (rndA l1 t) := by simp [rndA]
theorem relA_arc {t : List Int} {a : ArcT} (h : a.2.1 < t.length) : t.getD a.1 0 + a.2.2 ≤ (relA t a).getD a.2.1 0 := by
  unfold relA
  split
  · rw [getD_setI, if_pos ⟨rfl, h⟩]; omega
  · omega
/-- a round that changes nothing: all arcs are kept -/
theorem fix_closed {as : List ArcT} {t : List Int} (hv : ∀ a ∈ as, a.2.1 < t.length) (h : rndA as t = t) : closedA as (fun v => t.getD v 0) := by
  intro a ha
  obtain ⟨l1, l2, rfl⟩ := List.append_of_mem ha
  have e : rndA (l1 ++ a :: l2) t = rndA l2 (relA (rndA l1 t) a) := by rw [rndA_app]; rfl
  rw [e] at h
  have h1 := rndA_ge l1 t a.1
  have h2 := relA_arc (t := rndA l1 t) (a := a) (by rw [rndA_len]; exact hv a ha)
  have h3 := rndA_ge l2 (relA (rndA l1 t) a) a.2.1
  rw [h] at h3
  (try dsimp only)
  omega
/-- an arc that tells a node's last time does so in the round behind its begin's -/
theorem arc_final {as : List ArcT} {t : List Int} {F : Nat → Int} (hv : ∀ a ∈ as, a.2.1 < t.length) (ht : ∀ v, t.getD v 0 ≤ F v) (hc : closedA as F) {a : ArcT} (ha : a ∈ as) (hu : t.getD a.1 0 = F a.1) (he : F a.1 + a.2.2 = F a.2.1) :
    (rndA as t).getD a.2.1 0 = F a.2.1 := by
  obtain ⟨l1, l2, rfl⟩ := List.append_of_mem ha
  have e : rndA (l1 ++ a :: l2) t = rndA l2 (relA (rndA l1 t) a) := by rw [rndA_app]; rfl
  have h1 := rndA_ge l1 t a.1
  have h2 := relA_arc (t := rndA l1 t) (a := a) (by rw [rndA_len]; exact hv a ha)
  have h3 := rndA_ge l2 (relA (rndA l1 t) a) a.2.1
  have h4 := rndA_le ht hc a.2.1
  rw [e] at h4 ⊢
  omega
theorem count_less {α : Type} {p q : α → Bool} {l : List α} (h : ∀ x ∈ l, p x = true → q x = true) {y : α} (hy : y ∈ l) (hp : p y = false) (hq : q y = true) : l.countP p < l.countP q := by
  induction l with
  | nil => cases hy
  | cons x l ih =>
    have mono : l.countP p ≤ l.countP q := List.countP_mono_left (fun x hx hpx => h x (by simp [hx]) hpx)
    rw [List.countP_cons, List.countP_cons]
    rcases List.mem_cons.1 hy with rfl | hy
    · simp [hp, hq]; omega
    · have h1 := ih (fun x hx => h x (by simp [hx])) hy
      have h2 := h x (by simp)
      cases hpx : p x with
      | false => simp; omega
      | true => rw [h2 hpx]; simp; omega
/-- how many nodes have come to their last time -/
def finA (n : Nat) (F : Nat → Int) (t : List Int) : Nat := (List.range n).countP fun v => decide (t.getD v 0 = F v)
/-- the last times, reached in some round, are reached behind n - 1 rounds -/
theorem bell {as : List ArcT} {n N : Nat} (hn : 1 ≤ n) (hv : ∀ a ∈ as, a.1 < n ∧ a.2.1 < n) (hN : rndA as (tmA as n N) = tmA as n N) : rndA as (tmA as n (n - 1)) = tmA as n (n - 1) := by
  obtain ⟨F, hF⟩ : ∃ F : Nat → Int, F = fun v => (tmA as n N).getD v 0 := ⟨_, rfl⟩
  have hc : closedA as F := by rw [hF]; exact fix_closed (fun a ha => by rw [tmA_len]; exact (hv a ha).2) hN
  have h0 : ∀ v, 0 ≤ F v := fun v => by rw [hF]; exact tmA_nonneg as n N v
  have least : ∀ G : Nat → Int, (∀ v, 0 ≤ G v) → closedA as G → ∀ v, F v ≤ G v := fun G hg hcG v => by rw [hF]; exact tmA_le hg hcG N v
  have hle : ∀ k v, (tmA as n k).getD v 0 ≤ F v := fun k v => tmA_le h0 hc k v
  -- one more node behind each round
  have more : ∀ k, (∀ v, (tmA as n k).getD v 0 = F v) ∨ ∃ a ∈ as, (tmA as n k).getD a.1 0 = F a.1 ∧ ¬ (tmA as n k).getD a.2.1 0 = F a.2.1 ∧ F a.1 + a.2.2 = F a.2.1 := by
    intro k
    by_cases hx : ∃ a ∈ as, (tmA as n k).getD a.1 0 = F a.1 ∧ ¬ (tmA as n k).getD a.2.1 0 = F a.2.1 ∧ F a.1 + a.2.2 = F a.2.1
    · exact .inr hx
    · left
      have hG := least (fun v => if (tmA as n k).getD v 0 = F v then F v else F v - 1) (fun v => by
        (try dsimp only)
        split
        · exact h0 v
        · rename_i hne
          have h1 := hle k v
          have h2 := tmA_nonneg as n k v
          omega) (fun a ha => by
        have h1 := hc a ha
        (try dsimp only)
        by_cases hu : (tmA as n k).getD a.1 0 = F a.1
        · rw [if_pos hu]
          by_cases hw : (tmA as n k).getD a.2.1 0 = F a.2.1
          · rw [if_pos hw]; exact h1
          · rw [if_neg hw]
            have : ¬ F a.1 + a.2.2 = F a.2.1 := fun e => hx ⟨a, ha, hu, hw, e⟩
            omega
        · rw [if_neg hu]
          split <;> omega)
      intro v
      have h1 := hG v
      (try dsimp only at h1)
      split at h1
      · assumption
      · omega
  have cnt : ∀ k, (∀ v, (tmA as n k).getD v 0 = F v) ∨ k + 1 ≤ finA n F (tmA as n k) := by
    intro k
    induction k with
    | zero =>
      rcases more 0 with h | ⟨a, ha, hu, _⟩
      · exact .inl h
      · right
        have : 0 < finA n F (tmA as n 0) := List.countP_pos_iff.2 ⟨a.1, List.mem_range.2 (hv a ha).1, by simpa using hu⟩
        omega
    | succ k ih =>
      rcases more k with h | ⟨a, ha, hu, hw, he⟩
      · left
        intro v
        have h1 := rndA_ge as (tmA as n k) v
        have h2 := hle (k + 1) v
        rw [tmA] at h2 ⊢
        have := h v
        omega
      · rcases ih with h | ih
        · exact absurd (h a.2.1) hw
        · right
          have hf := arc_final (t := tmA as n k) (fun a ha => by rw [tmA_len]; exact (hv a ha).2) (hle k) hc ha hu he
          have := count_less (l := List.range n) (p := fun v => decide ((tmA as n k).getD v 0 = F v)) (q := fun v => decide ((tmA as n (k + 1)).getD v 0 = F v)) (fun x _ hp => by
            have h1 := rndA_ge as (tmA as n k) x
            have h2 := hle (k + 1) x
            have h3 := of_decide_eq_true hp
            rw [tmA] at h2 ⊢
            exact decide_eq_true (by omega)) (y := a.2.1) (List.mem_range.2 (hv a ha).2) (decide_eq_false hw) (decide_eq_true hf)
          unfold finA at *
          omega
  have hall : ∀ v, v < n → (tmA as n (n - 1)).getD v 0 = F v := by
    rcases cnt (n - 1) with h | h
    · exact fun v _ => h v
    · intro v hvn
      have h1 : (List.range n).countP (fun v => decide ((tmA as n (n - 1)).getD v 0 = F v)) = (List.range n).length := by
        have := List.countP_le_length (l := List.range n) (p := fun v => decide ((tmA as n (n - 1)).getD v 0 = F v))
        unfold finA at h
        simp only [List.length_range] at this ⊢
        omega
      have := List.countP_eq_length.1 h1 v (List.mem_range.2 hvn)
      simpa using this
  have heq : tmA as n (n - 1) = tmA as n N := by
    apply List.ext_getElem?
    intro v
    by_cases hvn : v < n
    · have h1 := hall v hvn
      rw [hF] at h1
      simp only [List.getD_eq_getElem?_getD] at h1
      rw [List.getElem?_eq_getElem (by rw [tmA_len]; exact hvn), List.getElem?_eq_getElem (by rw [tmA_len]; exact hvn)] at h1 ⊢
      simpa using h1
    · rw [List.getElem?_eq_none (by rw [tmA_len]; omega), List.getElem?_eq_none (by rw [tmA_len]; omega)]
  rw [heq]
  exact hN
end Go.Proofs.Ytclkgfcehmmgaaa.Plain
