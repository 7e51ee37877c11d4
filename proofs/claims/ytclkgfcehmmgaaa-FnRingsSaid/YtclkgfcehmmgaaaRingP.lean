/- The ring that the search finds is one: plain facts. -/
import Derived.Test.YtclkgfcehmmgaaaSlowT
namespace Go.Proofs.Ytclkgfcehmmgaaa.Plain
/-- arcs, by their places, from a node to a node -/
def PathQ (l : List Q4) : Int → List Nat → List Q4 → Int → Prop
  | x, [], [], e => x = e
  | x, i :: p, a :: q, e => l[i]? = some a ∧ a.a = x ∧ PathQ l a.b p q e
  | _, _, _, _ => False
theorem firstF_some {α β : Type} {f : Nat → α → Option β} {l : List α} {k : Nat} {x : β} (h : firstF f k l = some x) : ∃ j a, l[j]? = some a ∧ f (k + j) a = some x := by
  induction l generalizing k with
  | nil => cases h
  | cons b l ih =>
    simp only [firstF] at h
    split at h
    · rename_i y e
      cases h
      exact ⟨0, b, rfl, e⟩
    · obtain ⟨j, a, h1, h2⟩ := ih h
      exact ⟨j + 1, a, by simpa using h1, by rw [show k + (j + 1) = k + 1 + j by omega]; exact h2⟩
theorem goR_path {l : List Q4} {z : Q4 → Int} {st : Int} (r : Nat) : ∀ at' S wt p, goR l z st r at' S wt = some p → ∃ q, PathQ l at' p q st ∧ wt + sumQ z q = 0 ∧ p.length = r := by
  induction r with
  | zero => intro _ _ _ _ h; cases h
  | succ r ih =>
    intro at' S wt p h
    rw [goR_succ] at h
    obtain ⟨i, a, h1, h2⟩ := firstF_some h
    rw [Nat.zero_add, goF] at h2
    split at h2
    · cases h2
    · rename_i c
      split at h2
      · rename_i hr
        split at h2
        · rename_i c2
          cases h2
          refine ⟨[a], ⟨h1, by omega, c2.1⟩, ?_, by rw [hr]; rfl⟩
          simp only [sumQ]
          omega
        · cases h2
      · split at h2
        · cases h2
        · cases e : goR l z st r a.b (S ||| 2 ^ a.b.toNat) (wt + z a) with
          | none => rw [e] at h2; cases h2
          | some p' =>
            rw [e] at h2
            cases h2
            obtain ⟨q, h3, h4, h5⟩ := ih _ _ _ _ e
            refine ⟨a :: q, ⟨h1, by omega, h3⟩, ?_, by rw [List.length_cons, h5]⟩
            simp only [sumQ]
            omega
theorem ringF_path {l : List Q4} {z : Q4 → Int} {s : Nat} {p : List Nat} (hs : 1 ≤ s) (h : ringF l z s = some p) : ∃ q e, PathQ l e p q e ∧ sumQ z q = 0 ∧ p.length = s := by
  obtain ⟨i, a, h1, h2⟩ := firstF_some h
  rw [Nat.zero_add, topF] at h2
  split at h2
  · cases h2
  · split at h2
    · rename_i hr
      split at h2
      · rename_i c
        cases h2
        refine ⟨[a], a.a, ⟨h1, rfl, c.1⟩, ?_, by rw [hr]; rfl⟩
        simp only [sumQ]
        omega
      · cases h2
    · split at h2
      · cases h2
      · cases e : goR l z a.a (s - 1) a.b (2 ^ a.a.toNat ||| 2 ^ a.b.toNat) (z a) with
        | none => rw [e] at h2; cases h2
        | some p' =>
          rw [e] at h2
          cases h2
          obtain ⟨q, h3, h4, h5⟩ := goR_path _ _ _ _ _ e
          exact ⟨a :: q, a.a, ⟨h1, rfl, h3⟩, h4, by rw [List.length_cons, h5]; omega⟩
theorem path_facts {l : List Q4} : ∀ (p : List Nat) (q : List Q4) (x e : Int), PathQ l x p q e → q.length = p.length ∧ (∀ a ∈ q, a ∈ l) ∧ (∀ F : Nat → Int, sumQ (fun a => F a.b.toNat - F a.a.toNat) q = F e.toNat - F x.toNat) ∧
    (∀ (k i : Nat), p[k]? = some i → l[i]? = q[k]?) ∧ (∀ a, q[0]? = some a → a.a = x) ∧ (∀ (k : Nat) a b, q[k]? = some a → q[k + 1]? = some b → a.b = b.a) ∧ (∀ a, q[q.length - 1]? = some a → a.b = e) := by
  intro p
  induction p with
  | nil =>
    intro q x e h
    cases q with
    | nil =>
      have h : x = e := h
      subst h
      refine ⟨rfl, ?_, ?_, ?_, ?_, ?_, ?_⟩ <;> simp [sumQ]
    | cons a q => exact h.elim
  | cons i p ih =>
    intro q x e h
    cases q with
    | nil => exact h.elim
    | cons a q =>
      obtain ⟨h1, h2, h3⟩ := h
      obtain ⟨i1, i2, i3, i4, i5, i6, i7⟩ := ih q a.b e h3
      refine ⟨by simp [i1], fun b hb => ?_, fun F => ?_, fun k j hk => ?_, fun b hb => ?_, fun k b c hb hc => ?_, fun b hb => ?_⟩
      · rcases List.mem_cons.1 hb with rfl | hb
        · exact List.mem_of_getElem? h1
        · exact i2 b hb
      · simp only [sumQ]
        rw [i3 F, h2]
        omega
      · cases k with
        | zero => simp at hk; subst hk; simpa using h1
        | succ k => simpa using i4 k j (by simpa using hk)
      · simp at hb; subst hb; exact h2
      · cases k with
        | zero =>
          simp at hb hc
          subst hb
          exact (i5 c (by rw [List.getElem?_eq_some_iff]; exact List.getElem?_eq_some_iff.1 (by simpa using hc))).symm
        | succ k => exact i6 k b c (by simpa using hb) (by simpa using hc)
      · cases q with
        | nil =>
          simp at hb
          subst hb
          cases p with
          | nil => exact h3
          | cons _ _ => exact h3.elim
        | cons c q =>
          refine i7 b ?_
          simpa using hb
theorem path_ring {l : List Q4} {p : List Nat} {q : List Q4} {e : Int} (h : PathQ l e p q e) (h1 : 1 ≤ p.length) (h2 : p.length ≤ 12) : RingQ l q := by
  obtain ⟨f1, f2, f3, _⟩ := path_facts p q e e h
  exact ⟨by omega, by omega, f2, fun F => by rw [f3 F]; omega⟩
/-- each arc leads to the next one, the last to the first -/
theorem path_turn {l : List Q4} {p : List Nat} {q : List Q4} {e : Int} (h : PathQ l e p q e) {k i j : Nat} {a b : Q4} (hk : k < p.length) (hi : p[k]? = some i) (hj : p[(k + 1) % p.length]? = some j) (ha : l[i]? = some a) (hb : l[j]? = some b) : a.b = b.a := by
  obtain ⟨f1, _, _, f4, f5, f6, f7⟩ := path_facts p q e e h
  have e1 := f4 _ _ hi
  have e2 := f4 _ _ hj
  rw [ha] at e1
  rw [hb] at e2
  rcases Nat.lt_or_ge (k + 1) p.length with h1 | h1
  · rw [Nat.mod_eq_of_lt h1] at e2
    exact f6 k a b e1.symm e2.symm
  · rw [show k + 1 = p.length by omega, Nat.mod_self] at e2
    rw [f7 a (by rw [f1, show p.length - 1 = k by omega]; exact e1.symm), f5 b e2.symm]
end Go.Proofs.Ytclkgfcehmmgaaa.Plain
