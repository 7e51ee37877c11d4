/- Numbers in order by a key that tells all apart: there is one such list; the insertion sort makes it. No program stands here. -/
import Derived.Test.YtjddlgmdbkaieaaSymT
import Derived.Test.YtjddlgmdbkaieaaSortT
import Derived.Test.YtjddlgmdbkaieaaIdleT
import Derived.Test.YtjddlgmdbkaieaaCmpI
namespace Go.Proofs.Ytjddlgmdbkaieaa.Plain
set_option linter.unusedVariables false
set_option linter.unusedSimpArgs false
theorem one_list {Q : Int → Int} {n : Nat} {A B : List Int} (hQ : ∀ x y, 0 ≤ x → x < (n : Int) → 0 ≤ y → y < (n : Int) → Q x = Q y → x = y) (a1 : A.length = n) (a2 : inL n A) (a3 : ∀ i j, i < j → j < n → Q (A.getD i 0) < Q (A.getD j 0)) (b1 : B.length = n) (b2 : inL n B) (b3 : ∀ i j, i < j → j < n → Q (B.getD i 0) < Q (B.getD j 0)) : A = B := by
  have one : ∀ {C : List Int}, C.length = n → (∀ i j, i < j → j < n → Q (C.getD i 0) < Q (C.getD j 0)) → oneL C := fun {C} c1 c3 i j hi hj e => by
    rcases Nat.lt_trichotomy i j with h | h | h
    · have := c3 i j h (by omega); rw [e] at this; omega
    · exact h
    · have := c3 j i h (by omega); rw [e] at this; omega
  have half : ∀ {C D : List Int}, C.length = n → inL n C → (∀ i j, i < j → j < n → Q (C.getD i 0) < Q (C.getD j 0)) → D.length = n → inL n D → (∀ i j, i < j → j < n → Q (D.getD i 0) < Q (D.getD j 0)) → ∀ k, k < n → (∀ i, i < k → C.getD i 0 = D.getD i 0) → Q (C.getD k 0) ≤ Q (D.getD k 0) := fun {C D} c1 c2 c3 d1 d2 d3 k hk ih => by
    obtain ⟨bx, by'⟩ := d2 k (by omega)
    obtain ⟨x, hx⟩ : ∃ x : Nat, D.getD k 0 = (x : Int) := ⟨(D.getD k 0).toNat, by omega⟩
    obtain ⟨j, hj, e⟩ := stands c1 c2 (one c1 c3) x (by omega)
    have ej : C.getD j 0 = D.getD k 0 := by have := c2 j (by omega); omega
    rcases Nat.lt_trichotomy j k with h | h | h
    · rw [ih j h] at ej
      have := one d1 d3 j k (by omega) (by omega) ej
      omega
    · subst h; rw [ej]; exact Int.le_refl _
    · have := c3 k j h hj; rw [ej] at this; omega
  have all : ∀ k, k < n → A.getD k 0 = B.getD k 0 := by
    intro k
    induction k using Nat.strongRecOn with
    | _ k ih =>
      intro hk
      have h1 := half a1 a2 a3 b1 b2 b3 k hk (fun i hi => ih i hi (by omega))
      have h2 := half b1 b2 b3 a1 a2 a3 k hk (fun i hi => (ih i hi (by omega)).symm)
      have u := a2 k (by omega)
      have v := b2 k (by omega)
      exact hQ _ _ u.1 u.2 v.1 v.2 (by omega)
  apply List.ext_getElem?
  intro k
  by_cases hk : k < n
  · have := all k hk
    rw [List.getD_eq_getElem?_getD, List.getD_eq_getElem?_getD, List.getElem?_eq_getElem (by omega), List.getElem?_eq_getElem (by omega)] at this
    simp only [Option.getD_some] at this
    rw [List.getElem?_eq_getElem (by omega), List.getElem?_eq_getElem (by omega), this]
  · rw [List.getElem?_eq_none (by omega), List.getElem?_eq_none (by omega)]
theorem sink_same (K : Int → Int) (j : Nat) : ∀ (d : List Int) (i : Nat), j < d.length → i < 64 → d.getD j 0 = (i : Int) → (∀ t, t < j → 0 ≤ d.getD t 0 ∧ d.getD t 0 < (i : Int)) → sinkL K j d = sinkL (qK K) j d := by
  induction j with
  | zero => intro d i _ _ _ _; rfl
  | succ j ih =>
    intro d i hj hi he ht
    have hb := ht j (by omega)
    rw [sinkL, sinkL]
    have hq := qK_lt (K := K) (x := d.getD (j + 1) 0) (y := d.getD j 0) hb.1 (by omega) (by omega)
    by_cases hc : K (d.getD (j + 1) 0) < K (d.getD j 0)
    · rw [if_pos hc, if_pos (hq.2 hc)]
      have g := swapL_get d (j := j) hj
      refine ih (swapL d j) i (by rw [swapL_len]; omega) hi ?_ (fun t h => ?_)
      · rw [g, if_pos rfl]; exact he
      · rw [g, if_neg (by omega), if_neg (by omega)]; exact ht t (by omega)
    · rw [if_neg hc, if_neg (fun h => hc (hq.1 h))]
theorem sink_keep (K : Int → Int) (j : Nat) : ∀ (d : List Int) (P : Int → Prop), j < d.length → (∀ t, t ≤ j → P (d.getD t 0)) → (∀ t, t ≤ j → P ((sinkL K j d).getD t 0)) ∧ ∀ t, j < t → (sinkL K j d).getD t 0 = d.getD t 0 := by
  induction j with
  | zero => intro d P _ h; exact ⟨h, fun t _ => rfl⟩
  | succ j ih =>
    intro d P hj h
    rw [sinkL]
    split
    · have g := swapL_get d (j := j) hj
      obtain ⟨h1, h2⟩ := ih (swapL d j) P (by rw [swapL_len]; omega) (fun t ht => by
        rw [g]; split
        · exact h _ (by omega)
        · rw [if_neg (by omega)]; exact h t (by omega))
      refine ⟨fun t ht => ?_, fun t ht => ?_⟩
      · rcases Nat.lt_or_ge j t with h3 | h3
        · rw [h2 t h3, g, if_neg (by omega)]
          obtain rfl : t = j + 1 := by omega
          rw [if_pos rfl]; exact h j (by omega)
        · exact h1 t h3
      · rw [h2 t (by omega), g, if_neg (by omega), if_neg (by omega)]
    · exact ⟨h, fun t _ => rfl⟩
theorem upTo_get {n k : Nat} (h : k < n) : (upTo n).getD k 0 = (k : Int) := by
  rw [upTo, List.getD_eq_getElem?_getD, List.getElem?_map, List.getElem?_range h]; rfl
theorem sort_same (K : Int → Int) (n : Nat) (hn : n ≤ 64) (k : Nat) (hk : k ≤ n) : sortL K (upTo n) k = sortL (qK K) (upTo n) k ∧ (∀ t, t < k → 0 ≤ (sortL K (upTo n) k).getD t 0 ∧ (sortL K (upTo n) k).getD t 0 < (k : Int)) ∧ ∀ t, k ≤ t → t < n → (sortL K (upTo n) k).getD t 0 = (t : Int) := by
  induction k with
  | zero => exact ⟨rfl, fun t ht => by omega, fun t _ ht => upTo_get ht⟩
  | succ k ih =>
    obtain ⟨i1, i2, i3⟩ := ih (by omega)
    have hl : k < (sortL K (upTo n) k).length := by rw [sortL_len, upTo_len]; omega
    have e := i3 k (Nat.le_refl _) (by omega)
    have s := sink_keep K k (sortL K (upTo n) k) (fun x => 0 ≤ x ∧ x < ((k + 1 : Nat) : Int)) hl (fun t ht => by
      rcases Nat.lt_or_ge t k with h | h
      · have := i2 t h; exact ⟨this.1, by push_cast; omega⟩
      · obtain rfl : t = k := by omega
        rw [e]; exact ⟨by omega, by push_cast; omega⟩)
    refine ⟨?_, fun t ht => ?_, fun t h1 h2 => ?_⟩
    · rw [sortL, sortL, ← i1]
      exact sink_same K k _ k hl (by omega) e i2
    · rw [sortL]; exact s.1 t (by omega)
    · rw [sortL, s.2 t (by omega), i3 t (by omega) h2]
/-- whoever puts the numbers below n in order by the key, equal ones as they stand, makes the list of the insertion sort -/
theorem sorted_is (K : Int → Int) {n : Nat} (hn : n ≤ 64) {f : Nat → Int} (hf : ∀ k, k < n → 0 ≤ f k ∧ f k < (n : Int)) (hs : ∀ i j, i < j → j < n → qK K (f i) < qK K (f j)) : mkL n f = sortL K (upTo n) n := by
  obtain ⟨e, hb, _⟩ := sort_same K n hn n (Nat.le_refl _)
  have hlen : (sortL K (upTo n) n).length = n := by rw [sortL_len, upTo_len]
  have hone : oneL (sortL K (upTo n) n) := oneL_sort K (by
    intro a b ha hb h
    rw [upTo_len] at ha hb
    rw [upTo_get ha, upTo_get hb] at h
    omega) n (by rw [upTo_len]; exact Nat.le_refl _)
  refine one_list (Q := qK K) (fun x y x0 x1 y0 y1 h => qK_one (K := K) x0 (by omega) y0 (by omega) h) (mkL_len n f) ?_ ?_ hlen ?_ ?_
  · intro k hk
    rw [mkL_len] at hk
    rw [mkL_get f hk]; exact hf k hk
  · intro i j hij hj
    rw [mkL_get f (by omega), mkL_get f hj]; exact hs i j hij hj
  · intro k hk
    rw [hlen] at hk
    exact hb k hk
  · intro i j hij hj
    have h1 := sortL_ord (qK K) (upTo n) n (by rw [upTo_len]; exact Nat.le_refl _) i j hij hj
    rw [← e] at h1
    rcases Int.lt_or_le (qK K ((sortL K (upTo n) n).getD i 0)) (qK K ((sortL K (upTo n) n).getD j 0)) with h2 | h2
    · exact h2
    · have u := hb i (by omega)
      have v := hb j hj
      have := hone i j (by omega) (by omega) (qK_one (K := K) u.1 (by omega) v.1 (by omega) (by omega))
      omega
end Go.Proofs.Ytjddlgmdbkaieaa.Plain
