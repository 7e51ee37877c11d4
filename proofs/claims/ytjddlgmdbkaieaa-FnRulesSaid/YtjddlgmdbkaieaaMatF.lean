/- What a search for a free column leaves: no row has two columns, rows fit, and columns stay taken. No program stands here. -/
import Derived.Test.YtjddlgmdbkaieaaMatchT
namespace Go.Proofs.Ytjddlgmdbkaieaa.Plain
set_option linter.unusedVariables false
set_option linter.unusedSimpArgs false
/-- before a search for row i: rows fit and have one column each, and i has none but such that are looked at -/
structure Pre (f : Nat → Nat → Bool) (p i : Nat) (s : MaS) : Prop where
  lp : s.po.length = p
  ls : s.sn.length = p
  bd : ∀ j, j < p → -1 ≤ s.po.getD j 0
  fit : ∀ j, j < p → 0 ≤ s.po.getD j 0 → f (s.po.getD j 0).toNat j = true
  inj : ∀ j j', j < p → j' < p → j ≠ j' → 0 ≤ s.po.getD j 0 → s.po.getD j 0 ≠ s.po.getD j' 0
  own : ∀ j, j < p → s.po.getD j 0 = (i : Int) → s.sn.getD j true = true
/-- behind a search that found a column c for row i -/
structure Yes (f : Nat → Nat → Bool) (p i : Nat) (s t : MaS) (c : Nat) : Prop where
  lp : t.po.length = p
  ls : t.sn.length = p
  bd : ∀ j, j < p → -1 ≤ t.po.getD j 0
  fit : ∀ j, j < p → 0 ≤ t.po.getD j 0 → f (t.po.getD j 0).toNat j = true
  cp : c < p
  cn : s.sn.getD c true = false
  ci : t.po.getD c 0 = (i : Int)
  dup : ∀ j j', j < p → j' < p → j ≠ j' → 0 ≤ t.po.getD j 0 → t.po.getD j 0 = t.po.getD j' 0 → t.po.getD j 0 = (i : Int)
  one : ∀ j, j < p → t.po.getD j 0 = (i : Int) → j = c ∨ s.sn.getD j true = true
  same : ∀ j, j < p → s.sn.getD j true = true → t.po.getD j 0 = s.po.getD j 0
  tak : ∀ j, j < p → 0 ≤ s.po.getD j 0 → 0 ≤ t.po.getD j 0
  rows : ∀ x : Int, 0 ≤ x → x ≠ (i : Int) → ((∃ j, j < p ∧ t.po.getD j 0 = x) ↔ ∃ j, j < p ∧ s.po.getD j 0 = x)
/-- behind a search that found none, from column k on -/
structure No (p : Nat) (s t : MaS) : Prop where
  po : t.po = s.po
  ls : t.sn.length = p
  grow : ∀ j, j < p → s.sn.getD j true = true → t.sn.getD j true = true
  occ : ∀ j, j < p → t.sn.getD j true = true → s.sn.getD j true = true ∨ 0 ≤ s.po.getD j 0
theorem set_get {α : Type} (l : List α) (k j : Nat) (x d : α) (hk : k < l.length) : (l.set k x).getD j d = if j = k then x else l.getD j d := by
  rw [List.getD_eq_getElem?_getD, List.getElem?_set]
  by_cases h : k = j
  · subst h; simp [hk]
  · rw [if_neg h, if_neg (fun e => h e.symm), List.getD_eq_getElem?_getD]
theorem no_refl {p : Nat} {s : MaS} (h : s.sn.length = p) : No p s s := ⟨rfl, h, fun _ _ h => h, fun _ _ h => .inl h⟩
theorem no_trans {p : Nat} {s t u : MaS} (h1 : No p s t) (h2 : No p t u) : No p s u :=
  ⟨h2.po.trans h1.po, h2.ls, fun j hj h => h2.grow j hj (h1.grow j hj h), fun j hj h => by
    rcases h2.occ j hj h with h3 | h3
    · exact h1.occ j hj h3
    · rw [h1.po] at h3; exact .inr h3⟩
/-- a search goes on behind a part that found none -/
theorem pre_no {f : Nat → Nat → Bool} {p i : Nat} {s t : MaS} (h : Pre f p i s) (hn : No p s t) : Pre f p i t :=
  ⟨by rw [hn.po]; exact h.lp, hn.ls, by rw [hn.po]; exact h.bd, by rw [hn.po]; exact h.fit, by rw [hn.po]; exact h.inj, fun j hj e => by rw [hn.po] at e; exact hn.grow j hj (h.own j hj e)⟩
theorem yes_no {f : Nat → Nat → Bool} {p i : Nat} {s t u : MaS} {c : Nat} (hp : Pre f p i s) (hn : No p s t) (h : Yes f p i t u c) : Yes f p i s u c where
  lp := h.lp
  ls := h.ls
  bd := h.bd
  fit := h.fit
  cp := h.cp
  cn := by
    cases e : s.sn.getD c true with
    | false => rfl
    | true => have := hn.grow c h.cp e; rw [h.cn] at this; cases this
  ci := h.ci
  dup := h.dup
  one := fun j hj e => by
    rcases h.one j hj e with h1 | h1
    · exact .inl h1
    · have h3 := h.same j hj h1
      rw [hn.po] at h3
      exact .inr (hp.own j hj (h3.symm.trans e))
  same := fun j hj e => by have := h.same j hj (hn.grow j hj e); rw [hn.po] at this; exact this
  tak := fun j hj e => h.tak j hj (by rw [hn.po]; exact e)
  rows := fun x h0 hx => by have := h.rows x h0 hx; rw [hn.po] at this; exact this
theorem mark_sn {p : Nat} {s : MaS} (h : s.sn.length = p) {k : Nat} (hk : k < p) (j : Nat) : (markM s k).sn.getD j true = if j = k then true else s.sn.getD j true := set_get _ _ _ _ _ (by omega)
theorem give_po {p : Nat} {s : MaS} (h : s.po.length = p) {k : Nat} (hk : k < p) (i j : Nat) : (giveM s k i).po.getD j 0 = if j = k then (i : Int) else s.po.getD j 0 := set_get _ _ _ _ _ (by omega)
/-- a free column -/
theorem give_free {f : Nat → Nat → Bool} {p i k : Nat} {s : MaS} (h : Pre f p i s) (hk : k < p) (hs : s.sn.getD k true = false) (hf : f i k = true) (h0 : s.po.getD k 0 < 0) : Yes f p i s (giveM (markM s k) k i) k := by
  have G := fun j => give_po (s := markM s k) h.lp hk i j
  have e0 : ∀ j, (markM s k).po.getD j 0 = s.po.getD j 0 := fun j => rfl
  simp only [e0] at G
  refine ⟨by simpa [giveM, markM] using h.lp, by simpa [giveM, markM] using h.ls, fun j hj => ?_, fun j hj hp => ?_, hk, hs, by rw [G, if_pos rfl], fun j j' hj hj' hne hp he => ?_, fun j hj he => ?_, fun j hj he => ?_, fun j hj hp => ?_, fun x hx hxi => ⟨?_, ?_⟩⟩
  · rw [G]; have := h.bd j hj; split <;> omega
  · rw [G] at hp ⊢
    split
    · rename_i e; subst e; rw [Int.toNat_natCast]; exact hf
    · rename_i e; rw [if_neg e] at hp; exact h.fit j hj hp
  · rw [G] at hp he ⊢
    rw [G] at he
    split
    · rfl
    · rename_i e
      rw [if_neg e] at hp he
      split at he
      · exact he
      · exact absurd he (h.inj j j' hj hj' hne hp)
  · rw [G] at he
    split at he
    · rename_i e; exact .inl e
    · exact .inr (h.own j hj he)
  · rw [G, if_neg (fun e => by subst e; rw [hs] at he; cases he)]
  · rw [G]; split <;> omega
  · rintro ⟨j, hj, he⟩
    rw [G] at he
    split at he
    · exact absurd he.symm hxi
    · exact ⟨j, hj, he⟩
  · rintro ⟨j, hj, he⟩
    exact ⟨j, hj, by rw [G, if_neg (fun e => by subst e; omega)]; exact he⟩
theorem pre_mark {f : Nat → Nat → Bool} {p i k : Nat} {s : MaS} (h : Pre f p i s) (hk : k < p) (h0 : 0 ≤ s.po.getD k 0) : Pre f p (s.po.getD k 0).toNat (markM s k) := by
  refine ⟨h.lp, by simpa [markM] using h.ls, h.bd, h.fit, h.inj, fun j hj e => ?_⟩
  rw [mark_sn h.ls hk]
  by_cases e1 : j = k
  · rw [if_pos e1]
  · exfalso
    have e : s.po.getD j 0 = s.po.getD k 0 := by
      have : (markM s k).po.getD j 0 = s.po.getD j 0 := rfl
      rw [this] at e
      omega
    exact h.inj k j hk hj (fun x => e1 x.symm) h0 e.symm
theorem no_mark {f : Nat → Nat → Bool} {p i k : Nat} {s : MaS} (h : Pre f p i s) (hk : k < p) (h0 : 0 ≤ s.po.getD k 0) : No p s (markM s k) := by
  refine ⟨rfl, by simpa [markM] using h.ls, fun j hj e => ?_, fun j hj e => ?_⟩
  · rw [mark_sn h.ls hk]; split
    · rfl
    · exact e
  · rw [mark_sn h.ls hk] at e
    split at e
    · rename_i e1; subst e1; exact .inr h0
    · exact .inl e
/-- a column made free -/
theorem give_moved {f : Nat → Nat → Bool} {p i k c : Nat} {s t : MaS} (h : Pre f p i s) (hk : k < p) (hs : s.sn.getD k true = false) (hf : f i k = true) (h0 : 0 ≤ s.po.getD k 0) (y : Yes f p (s.po.getD k 0).toNat (markM s k) t c) : Yes f p i s (giveM t k i) k := by
  have G := fun j => give_po (s := t) y.lp hk i j
  have hr : ((s.po.getD k 0).toNat : Int) = s.po.getD k 0 := by omega
  have hir : (i : Int) ≠ s.po.getD k 0 := fun e => by have := h.own k hk e.symm; rw [hs] at this; cases this
  have km : (markM s k).sn.getD k true = true := by rw [mark_sn h.ls hk, if_pos rfl]
  have tk : t.po.getD k 0 = s.po.getD k 0 := y.same k hk km
  have e0 : ∀ j, (markM s k).po.getD j 0 = s.po.getD j 0 := fun j => rfl
  have ck : c ≠ k := fun e => by have := y.cn; rw [e, km] at this; cases this
  -- where the moved row stands now, but at k: at c alone
  have at_c : ∀ j, j < p → j ≠ k → t.po.getD j 0 = s.po.getD k 0 → j = c := by
    intro j hj hne he
    rcases y.one j hj (by rw [hr]; exact he) with h1 | h1
    · exact h1
    · exfalso
      have h2 := y.same j hj h1
      rw [e0] at h2
      exact h.inj k j hk hj (fun x => hne x.symm) h0 (by rw [← h2, he])
  refine ⟨by simpa [giveM] using y.lp, y.ls, fun j hj => ?_, fun j hj hp => ?_, hk, hs, by rw [G, if_pos rfl], fun j j' hj hj' hne hp he => ?_, fun j hj he => ?_, fun j hj he => ?_, fun j hj hp => ?_, fun x hx hxi => ⟨?_, ?_⟩⟩
  · rw [G]; have := y.bd j hj; split <;> omega
  · rw [G] at hp ⊢
    split
    · rename_i e; subst e; rw [Int.toNat_natCast]; exact hf
    · rename_i e; rw [if_neg e] at hp; exact y.fit j hj hp
  · rw [G] at hp he ⊢
    rw [G] at he
    split
    · rfl
    · rename_i e
      rw [if_neg e] at hp he
      split at he
      · exact he
      · rename_i e'
        have hd := y.dup j j' hj hj' hne hp he
        rw [hr] at hd
        exact absurd ((at_c j hj e hd).trans (at_c j' hj' e' (he.symm.trans hd)).symm) hne
  · rw [G] at he
    split at he
    · rename_i e; exact .inl e
    · rename_i e
      right
      obtain ⟨j', hj', e'⟩ := (y.rows (i : Int) (by omega) (by rw [hr]; exact hir)).1 ⟨j, hj, he⟩
      rw [e0] at e'
      have hsn := h.own j' hj' e'
      have hm : (markM s k).sn.getD j' true = true := by
        rw [mark_sn h.ls hk]; split
        · rfl
        · exact hsn
      have h2 := y.same j' hj' hm
      rw [e0, e'] at h2
      by_cases ej : j = j'
      · rw [ej]; exact hsn
      · exfalso
        have hd := y.dup j j' hj hj' ej (by omega) (he.trans h2.symm)
        rw [hr, he] at hd
        exact hir hd
  · have hjk : j ≠ k := fun e => by subst e; rw [hs] at he; cases he
    rw [G, if_neg hjk]
    have := y.same j hj (by rw [mark_sn h.ls hk, if_neg hjk]; exact he)
    rw [e0] at this
    exact this
  · rw [G]
    split
    · omega
    · exact y.tak j hj hp
  · rintro ⟨j, hj, he⟩
    rw [G] at he
    split at he
    · exact absurd he.symm hxi
    · by_cases hx2 : x = s.po.getD k 0
      · exact ⟨k, hk, hx2.symm⟩
      · exact (y.rows x hx (by rw [hr]; exact hx2)).1 ⟨j, hj, he⟩
  · rintro ⟨j, hj, he⟩
    by_cases hx2 : x = s.po.getD k 0
    · refine ⟨c, y.cp, ?_⟩
      rw [G, if_neg ck, y.ci, hr, hx2]
    · obtain ⟨j2, hj2, e2⟩ := (y.rows x hx (by rw [hr]; exact hx2)).2 ⟨j, hj, he⟩
      refine ⟨j2, hj2, ?_⟩
      rw [G, if_neg (fun e => by subst e; rw [tk] at e2; exact hx2 e2.symm)]
      exact e2
/-- the columns in order -/
theorem loop_found {f : Nat → Nat → Bool} {p i : Nat} {rc : Nat → MaS → Bool × MaS} (hrc : ∀ r s, Pre f p r s → ((rc r s).1 = true → ∃ c, Yes f p r s (rc r s).2 c) ∧ ((rc r s).1 = false → No p s (rc r s).2)) (r : Nat) :
    ∀ (k : Nat) (s : MaS), k + r = p → Pre f p i s → ((loopM f rc i r k s).1 = true → ∃ c, Yes f p i s (loopM f rc i r k s).2 c) ∧ ((loopM f rc i r k s).1 = false → No p s (loopM f rc i r k s).2 ∧ ∀ j, k ≤ j → j < p → f i j = true → (loopM f rc i r k s).2.sn.getD j true = true) := by
  induction r with
  | zero => intro k s hk h; exact ⟨fun h => (by cases h), fun _ => ⟨no_refl h.ls, fun j h1 h2 => by omega⟩⟩
  | succ r ih =>
    intro k s hk h
    rw [loopM]
    by_cases h1 : (s.sn.getD k true || !f i k) = true
    · rw [if_pos h1]
      obtain ⟨a, b⟩ := ih (k + 1) s (by omega) h
      refine ⟨a, fun e => ?_⟩
      obtain ⟨n1, n2⟩ := b e
      refine ⟨n1, fun j hj1 hj2 hj3 => ?_⟩
      rcases Nat.lt_or_ge k j with hlt | hge
      · exact n2 j hlt hj2 hj3
      · obtain rfl : j = k := by omega
        rw [hj3] at h1
        exact n1.grow j hj2 (by simpa using h1)
    · rw [if_neg h1]
      have hs : s.sn.getD k true = false := by
        cases e : s.sn.getD k true with
        | false => rfl
        | true => rw [e] at h1; simp at h1
      have hf : f i k = true := by
        cases e : f i k with
        | true => rfl
        | false => rw [e] at h1; simp at h1
      by_cases h2 : s.po.getD k 0 < 0
      · rw [if_pos h2]
        exact ⟨fun _ => ⟨k, give_free h (by omega) hs hf h2⟩, fun e => by cases e⟩
      · rw [if_neg h2]
        have hx := hrc (s.po.getD k 0).toNat (markM s k) (pre_mark h (by omega) (by omega))
        generalize rc (s.po.getD k 0).toNat (markM s k) = z at *
        obtain ⟨b, s2⟩ := z
        cases b with
        | true =>
          obtain ⟨c, y⟩ := hx.1 rfl
          exact ⟨fun _ => ⟨k, give_moved h (by omega) hs hf (by omega) y⟩, fun e => by cases e⟩
        | false =>
          have hn := no_trans (no_mark h (show k < p by omega) (by omega)) (hx.2 rfl)
          obtain ⟨a, b⟩ := ih (k + 1) s2 (by omega) (pre_no h hn)
          refine ⟨fun e => ?_, fun e => ?_⟩
          · obtain ⟨c, y⟩ := a e
            exact ⟨c, yes_no h hn y⟩
          · obtain ⟨n1, n2⟩ := b e
            refine ⟨no_trans hn n1, fun j hj1 hj2 hj3 => ?_⟩
            rcases Nat.lt_or_ge k j with hlt | hge
            · exact n2 j hlt hj2 hj3
            · obtain rfl : j = k := by omega
              exact n1.grow j hj2 ((hx.2 rfl).grow j hj2 (by rw [mark_sn h.ls hj2, if_pos rfl]))
theorem look_found {f : Nat → Nat → Bool} {p : Nat} (n : Nat) : ∀ i s, Pre f p i s → ((lookM f p n i s).1 = true → ∃ c, Yes f p i s (lookM f p n i s).2 c) ∧ ((lookM f p n i s).1 = false → No p s (lookM f p n i s).2) := by
  induction n with
  | zero => intro i s h; exact ⟨fun e => (by cases e), fun _ => no_refl h.ls⟩
  | succ n ih =>
    intro i s h
    obtain ⟨a, b⟩ := loop_found (rc := lookM f p n) ih p 0 s (by omega) h
    exact ⟨a, fun e => (b e).1⟩
/-- a matching so far: rows below i, each at most once, where they fit; a row that has none finds all its columns taken -/
structure Full (f : Nat → Nat → Bool) (p i : Nat) (po : List Int) : Prop where
  lp : po.length = p
  bd : ∀ j, j < p → -1 ≤ po.getD j 0 ∧ po.getD j 0 < i
  fit : ∀ j, j < p → 0 ≤ po.getD j 0 → f (po.getD j 0).toNat j = true
  inj : ∀ j j', j < p → j' < p → j ≠ j' → 0 ≤ po.getD j 0 → po.getD j 0 ≠ po.getD j' 0
  max : ∀ x : Nat, x < i → (∃ j, j < p ∧ po.getD j 0 = (x : Int)) ∨ ∀ j, j < p → f x j = true → 0 ≤ po.getD j 0
theorem mat_full (f : Nat → Nat → Bool) (p : Nat) (i : Nat) : Full f p i (matM f p i) := by
  induction i with
  | zero =>
    have e : ∀ j, j < p → (matM f p 0).getD j 0 = -1 := fun j hj => by
      rw [matM, List.getD_eq_getElem?_getD, List.getElem?_replicate, if_pos hj]; rfl
    refine ⟨by simp [matM], fun j hj => by rw [e j hj]; omega, fun j hj h => ?_, fun j j' hj hj' _ h => ?_, fun x hx => by omega⟩
    · rw [e j hj] at h; omega
    · rw [e j hj] at h; omega
  | succ i ih =>
    have hpre : Pre f p i ⟨matM f p i, List.replicate p false⟩ := ⟨ih.lp, by simp, fun j hj => (ih.bd j hj).1, ih.fit, ih.inj, fun j hj e => by
      have := (ih.bd j hj).2
      have e2 : (matM f p i).getD j 0 = (i : Int) := e
      omega⟩
    have un : ∀ j, j < p → (List.replicate p false).getD j true = false := fun j hj => by
      rw [List.getD_eq_getElem?_getD, List.getElem?_replicate, if_pos hj]; rfl
    have hlk := loop_found (rc := lookM f p p) (look_found p) p 0 _ (by omega) hpre
    have e1 : lookM f p (p + 1) i ⟨matM f p i, List.replicate p false⟩ = loopM f (lookM f p p) i p 0 ⟨matM f p i, List.replicate p false⟩ := rfl
    rw [matM, e1]
    generalize loopM f (lookM f p p) i p 0 ⟨matM f p i, List.replicate p false⟩ = z at *
    obtain ⟨b, t⟩ := z
    cases b with
    | true =>
      obtain ⟨c, y⟩ := hlk.1 rfl
      have one : ∀ j, j < p → t.po.getD j 0 = (i : Int) → j = c := fun j hj e => by
        rcases y.one j hj e with h | h
        · exact h
        · rw [un j hj] at h; cases h
      refine ⟨y.lp, fun j hj => ⟨y.bd j hj, ?_⟩, y.fit, fun j j' hj hj' hne h0 he => ?_, fun x hx => ?_⟩
      · show t.po.getD j 0 < ((i + 1 : Nat) : Int)
        by_cases h0 : 0 ≤ t.po.getD j 0
        · by_cases hi : t.po.getD j 0 = (i : Int)
          · omega
          · obtain ⟨j2, hj2, e2⟩ := (y.rows _ h0 hi).1 ⟨j, hj, rfl⟩
            have := (ih.bd j2 hj2).2
            have e3 : (matM f p i).getD j2 0 = t.po.getD j 0 := e2
            omega
        · omega
      · have hd := y.dup j j' hj hj' hne h0 he
        exact hne ((one j hj hd).trans (one j' hj' (he.symm.trans hd)).symm)
      · rcases Nat.lt_or_ge x i with hlt | hge
        · rcases ih.max x hlt with ⟨j, hj, e⟩ | h
          · exact .inl ((y.rows (x : Int) (by omega) (by omega)).2 ⟨j, hj, e⟩)
          · exact .inr (fun j hj hf => y.tak j hj (h j hj hf))
        · obtain rfl : x = i := by omega
          exact .inl ⟨c, y.cp, y.ci⟩
    | false =>
      obtain ⟨n1, n2⟩ := hlk.2 rfl
      have ep : t.po = matM f p i := n1.po
      show Full f p (i + 1) t.po
      rw [ep]
      refine ⟨ih.lp, fun j hj => ⟨(ih.bd j hj).1, by have := (ih.bd j hj).2; omega⟩, ih.fit, ih.inj, fun x hx => ?_⟩
      rcases Nat.lt_or_ge x i with hlt | hge
      · exact ih.max x hlt
      · obtain rfl : x = i := by omega
        right
        intro j hj hf
        rcases n1.occ j hj (n2 j (by omega) hj hf) with h | h
        · have h' : (List.replicate p false).getD j true = true := h
          rw [un j hj] at h'; cases h'
        · exact h
end Go.Proofs.Ytjddlgmdbkaieaa.Plain
