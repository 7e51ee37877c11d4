/- Moves between trips of one vehicle, in the order of a list: when they can be done. No program stands here. -/
import Derived.Test.YtjddlgmdbkaieaaTripB
import Derived.Test.YtjddlgmdbkaieaaSortT
namespace Go.Proofs.Ytjddlgmdbkaieaa.Plain
set_option linter.unusedVariables false
set_option linter.unusedSimpArgs false
/-- the last trip of each vehicle, and the sum of the moves, behind k of a list; none: one could not follow -/
def idleF (f : Nat → Nat → Bool) (mv : Nat → Nat → Int) (V O : Nat → Nat) : Nat → Option (List Int × Int)
  | 0 => some (List.replicate 24 (-1), 0)
  | k + 1 => match idleF f mv V O k with
    | none => none
    | some (la, s) =>
      if la.getD (V (O k)) 0 < 0 then some (la.set (V (O k)) (O k : Int), s)
      else if f (la.getD (V (O k)) 0).toNat (O k) then some (la.set (V (O k)) (O k : Int), s + mv (la.getD (V (O k)) 0).toNat (O k)) else none
structure LastOk (V O : Nat → Nat) (k : Nat) (la : List Int) : Prop where
  len : la.length = 24
  at' : ∀ v, v < 24 → (la.getD v 0 = -1 ∧ ∀ m, m < k → V (O m) ≠ v) ∨ ∃ m, m < k ∧ la.getD v 0 = (O m : Int) ∧ V (O m) = v ∧ ∀ m', m < m' → m' < k → V (O m') ≠ v
theorem last_set {V O : Nat → Nat} {k : Nat} {la : List Int} (h : LastOk V O k la) (hv : V (O k) < 24) : LastOk V O (k + 1) (la.set (V (O k)) (O k : Int)) := by
  refine ⟨by rw [List.length_set]; exact h.len, fun v hv2 => ?_⟩
  rw [set_at _ _ _ _ (by have := h.len; omega)]
  by_cases e : v = V (O k)
  · rw [if_pos e]
    exact .inr ⟨k, by omega, rfl, e.symm, fun m' h1 h2 => by omega⟩
  · rw [if_neg e]
    rcases h.at' v hv2 with ⟨h1, h2⟩ | ⟨m, h1, h2, h3, h4⟩
    · refine .inl ⟨h1, fun m hm => ?_⟩
      by_cases em : m = k
      · subst em; exact fun e2 => e e2.symm
      · exact h2 m (by omega)
    · refine .inr ⟨m, by omega, h2, h3, fun m' h5 h6 => ?_⟩
      by_cases em : m' = k
      · subst em; exact fun e2 => e e2.symm
      · exact h4 m' h5 (by omega)
theorem last_of' {f : Nat → Nat → Bool} {mv : Nat → Nat → Int} {V O : Nat → Nat} {n : Nat} (hV : ∀ k, k < n → V (O k) < 24) (k : Nat) (hk : k ≤ n) : ∀ la s, idleF f mv V O k = some (la, s) → LastOk V O k la := by
  induction k with
  | zero =>
    intro la s h
    simp only [idleF, Option.some.injEq, Prod.mk.injEq] at h
    obtain ⟨rfl, rfl⟩ := h
    refine ⟨by simp, fun v hv => .inl ⟨?_, fun m hm => by omega⟩⟩
    rw [List.getD_eq_getElem?_getD, List.getElem?_replicate, if_pos hv]; rfl
  | succ k ih =>
    intro la s h
    rw [idleF] at h
    cases e : idleF f mv V O k with
    | none => rw [e] at h; cases h
    | some p =>
      obtain ⟨la0, s0⟩ := p
      rw [e] at h
      simp only at h
      have L := last_set (ih (by omega) la0 s0 e) (hV k (by omega))
      split at h
      · cases h; exact L
      · split at h
        · cases h; exact L
        · cases h
/-- where each can be done behind the last of its vehicle, all is known -/
theorem idle_known {f : Nat → Nat → Bool} {mv : Nat → Nat → Int} {V O : Nat → Nat} {n : Nat} (hV : ∀ k, k < n → V (O k) < 24) (hm : ∀ m k, m < n → k < n → 0 ≤ mv (O m) (O k))
    (H : ∀ m k, m < k → k < n → V (O m) = V (O k) → (∀ m', m < m' → m' < k → V (O m') ≠ V (O k)) → f (O m) (O k) = true) (k : Nat) (hk : k ≤ n) : ∃ la s, idleF f mv V O k = some (la, s) ∧ 0 ≤ s := by
  induction k with
  | zero => exact ⟨_, _, rfl, Int.le_refl _⟩
  | succ k ih =>
    obtain ⟨la, s, e, hs⟩ := ih (by omega)
    have L := last_of' hV k (by omega) la s e
    rw [idleF, e]
    simp only
    rcases L.at' (V (O k)) (hV k (by omega)) with ⟨h1, _⟩ | ⟨m, h1, h2, h3, h4⟩
    · rw [if_pos (by omega)]; exact ⟨_, _, rfl, hs⟩
    · rw [if_neg (by omega), h2, Int.toNat_natCast, if_pos (H m k h1 (by omega) h3 h4)]
      exact ⟨_, _, rfl, by have := hm m k (by omega) (by omega); omega⟩
/-- where one vehicle does all, each can be done behind the one ahead of it -/
theorem idle_one {f : Nat → Nat → Bool} {mv : Nat → Nat → Int} {V O : Nat → Nat} {n : Nat} (hV : ∀ k, k < n → V (O k) = 0) {r : List Int × Int} (h : idleF f mv V O n = some r) (k : Nat) (hk : k + 1 < n) : f (O k) (O (k + 1)) = true := by
  have part : ∀ j, j ≤ n → ∃ r, idleF f mv V O j = some r := by
    intro j hj
    obtain ⟨d, rfl⟩ : ∃ d, n = j + d := ⟨n - j, by omega⟩
    clear hk
    induction d generalizing r with
    | zero => exact ⟨r, h⟩
    | succ d ih =>
      have e : j + (d + 1) = (j + d) + 1 := by omega
      rw [e, idleF] at h
      cases e2 : idleF f mv V O (j + d) with
      | none => rw [e2] at h; cases h
      | some p => exact ih (r := p) (fun k hk => hV k (by omega)) e2 (by omega)
  obtain ⟨⟨la2, s2⟩, e2⟩ := part (k + 1 + 1) (by omega)
  obtain ⟨⟨la, s⟩, e1⟩ := part (k + 1) (by omega)
  have L := last_of' (n := n) (fun k hk => by rw [hV k hk]; omega) (k + 1) (by omega) la s e1
  rw [idleF, e1] at e2
  simp only at e2
  rw [hV (k + 1) hk] at e2
  rcases L.at' 0 (by omega) with ⟨_, h2⟩ | ⟨m, h1, h2, h3, h4⟩
  · exact absurd (hV k (by omega)) (h2 k (by omega))
  · have em : m = k := by
      rcases Nat.lt_or_ge m k with h5 | h5
      · exact absurd (hV k (by omega)) (h4 k h5 (by omega))
      · omega
    subst em
    rw [h2, if_neg (by omega), Int.toNat_natCast] at e2
    split at e2
    · assumption
    · cases e2
/-- each number below n stands in a list of n numbers below n, none of them twice -/
theorem stands {n : Nat} {o : List Int} (hl : o.length = n) (hi : inL n o) (h1 : oneL o) (x : Nat) (hx : x < n) : ∃ k, k < n ∧ o.getD k 0 = (x : Int) := by
  obtain ⟨W, hW⟩ : ∃ W, W = (List.range n).map fun k => (o.getD k 0).toNat := ⟨_, rfl⟩
  have nW : W.Nodup := by
    rw [hW]
    refine map_nodup List.nodup_range (fun a ha b hb e => ?_)
    rw [List.mem_range] at ha hb
    have ha2 := hi a (by omega)
    have hb2 := hi b (by omega)
    exact h1 a b (by omega) (by omega) (by omega)
  by_cases hm : x ∈ W
  · rw [hW] at hm
    obtain ⟨k, hk, e⟩ := List.mem_map.1 hm
    rw [List.mem_range] at hk
    have := hi k (by omega)
    exact ⟨k, hk, by omega⟩
  · exfalso
    have h2 : (x :: W).Nodup := by rw [List.nodup_cons]; exact ⟨hm, nW⟩
    have h3 := nodup_sub h2 (l2 := List.range n) (fun y hy => by
      rw [List.mem_range]
      rcases List.mem_cons.1 hy with rfl | hy
      · exact hx
      · rw [hW] at hy
        obtain ⟨k, hk, rfl⟩ := List.mem_map.1 hy
        rw [List.mem_range] at hk
        have := hi k (by omega)
        omega)
    rw [List.length_cons, hW, List.length_map, List.length_range] at h3
    omega
end Go.Proofs.Ytjddlgmdbkaieaa.Plain
