/- Rows matched with columns, in order, each by looking for a column that is free or can be made free, in plain lists. No program stands here. -/
import Derived.Test.YtdbojkanelmlkaaPlain
namespace Go.Proofs.Ytdbojkanelmlkaa.Plain

/-- the partner of each column (-1: none), and the columns looked at -/
structure MaS where
  po : List Int
  sn : List Bool
def openM (s : MaS) : Nat := s.sn.count false
def markM (s : MaS) (k : Nat) : MaS := ⟨s.po, s.sn.set k true⟩
def giveM (s : MaS) (k i : Nat) : MaS := ⟨s.po.set k (i : Int), s.sn⟩
def loopM (f : Nat → Nat → Bool) (rc : Nat → MaS → Bool × MaS) (i : Nat) : Nat → Nat → MaS → Bool × MaS
  | 0, _, s => (false, s)
  | r + 1, k, s => if s.sn.getD k true || !f i k then loopM f rc i r (k + 1) s
    else if s.po.getD k 0 < 0 then (true, giveM (markM s k) k i)
    else match rc (s.po.getD k 0).toNat (markM s k) with
      | (true, s2) => (true, giveM s2 k i)
      | (false, s2) => loopM f rc i r (k + 1) s2
def lookM (f : Nat → Nat → Bool) (p : Nat) : Nat → Nat → MaS → Bool × MaS
  | 0, _, s => (false, s)
  | n + 1, i, s => loopM f (lookM f p n) i p 0 s
/-- partners behind the first i rows -/
def matM (f : Nat → Nat → Bool) (p : Nat) : Nat → List Int
  | 0 => List.replicate p (-1)
  | i + 1 => (lookM f p (p + 1) i ⟨matM f p i, List.replicate p false⟩).2.po
structure OkM (rows p : Nat) (s : MaS) : Prop where
  lp : s.po.length = p
  ls : s.sn.length = p
  bd : ∀ k, k < p → s.po.getD k 0 = -1 ∨ (0 ≤ s.po.getD k 0 ∧ s.po.getD k 0 < rows)
theorem OkM.mark {rows p : Nat} {s : MaS} (h : OkM rows p s) (k : Nat) : OkM rows p (markM s k) := ⟨h.lp, by simpa [markM] using h.ls, h.bd⟩
theorem OkM.give {rows p : Nat} {s : MaS} (h : OkM rows p s) (k i : Nat) (hi : i < rows) : OkM rows p (giveM s k i) := by
  refine ⟨by simpa [giveM] using h.lp, h.ls, fun j hj => ?_⟩
  show (s.po.set k (i : Int)).getD j 0 = -1 ∨ (0 ≤ (s.po.set k (i : Int)).getD j 0 ∧ (s.po.set k (i : Int)).getD j 0 < rows)
  rw [List.getD_eq_getElem?_getD, List.getElem?_set]
  by_cases e : k = j
  · subst e
    rw [if_pos rfl, if_pos (by have := h.lp; omega)]
    right
    simp only [Option.getD_some]
    omega
  · rw [if_neg e, ← List.getD_eq_getElem?_getD]
    exact h.bd j hj
theorem count_setT {l : List Bool} {k : Nat} (h : l[k]? = some false) : (l.set k true).count false + 1 = l.count false := by
  induction l generalizing k with
  | nil => simp at h
  | cons a l ih =>
    cases k with
    | zero => simp at h; subst h; simp
    | succ k =>
      simp only [List.getElem?_cons_succ] at h
      have := ih h
      simp only [List.set_cons_succ, List.count_cons]
      omega
theorem open_mark {s : MaS} {k : Nat} (h : s.sn.getD k true = false) : openM (markM s k) + 1 = openM s := by
  refine count_setT ?_
  rw [List.getD_eq_getElem?_getD] at h
  cases e : s.sn[k]? with
  | none => rw [e] at h; cases h
  | some b => rw [e] at h; simp at h; rw [h]
theorem loopM_ok {f : Nat → Nat → Bool} {rows p : Nat} {rc : Nat → MaS → Bool × MaS} (hr : ∀ i s, i < rows → OkM rows p s → OkM rows p (rc i s).2 ∧ openM (rc i s).2 ≤ openM s) (i : Nat) (hi : i < rows) (r : Nat) :
    ∀ (k : Nat) (s : MaS), k + r = p → OkM rows p s → OkM rows p (loopM f rc i r k s).2 ∧ openM (loopM f rc i r k s).2 ≤ openM s := by
  induction r with
  | zero => intro k s _ h; exact ⟨h, Nat.le_refl _⟩
  | succ r ih =>
    intro k s hk h
    rw [loopM]
    split
    · exact ih (k + 1) s (by omega) h
    · rename_i hc
      have hs : s.sn.getD k true = false := by
        cases e : s.sn.getD k true with
        | false => rfl
        | true => rw [e] at hc; simp at hc
      have ho := open_mark hs
      split
      · exact ⟨(h.mark k).give k i hi, by show openM (markM s k) ≤ _; omega⟩
      · rename_i hn
        have hb := h.bd k (by omega)
        have hx := hr (s.po.getD k 0).toNat (markM s k) (by omega) (h.mark k)
        generalize rc (s.po.getD k 0).toNat (markM s k) = z at *
        obtain ⟨b, s2⟩ := z
        cases b with
        | true => exact ⟨hx.1.give k i hi, by have := hx.2; show openM s2 ≤ _; simp only at this; omega⟩
        | false =>
          have h2 := ih (k + 1) s2 (by omega) hx.1
          exact ⟨h2.1, by have := hx.2; have := h2.2; simp only at *; omega⟩
theorem lookM_ok {f : Nat → Nat → Bool} {rows p : Nat} (n : Nat) : ∀ (i : Nat) (s : MaS), i < rows → OkM rows p s → OkM rows p (lookM f p n i s).2 ∧ openM (lookM f p n i s).2 ≤ openM s := by
  induction n with
  | zero => intro i s _ h; exact ⟨h, Nat.le_refl _⟩
  | succ n ih => intro i s hi h; exact loopM_ok ih i hi p 0 s (by omega) h
/-- the steps of a search, as a program takes them -/
theorem loop_end {f : Nat → Nat → Bool} {rc : Nat → MaS → Bool × MaS} {i p : Nat} {s : MaS} : loopM f rc i (p - p) p s = (false, s) := by rw [Nat.sub_self]; rfl
theorem loop_skip {f : Nat → Nat → Bool} {rc : Nat → MaS → Bool × MaS} {i p k : Nat} {s : MaS} (hk : k < p) (h : s.sn.getD k true = true ∨ f i k = false) : loopM f rc i (p - k) k s = loopM f rc i (p - (k + 1)) (k + 1) s := by
  rw [show p - k = p - (k + 1) + 1 by omega, loopM, if_pos (by rcases h with h | h <;> rw [h] <;> simp)]
theorem loop_free {f : Nat → Nat → Bool} {rc : Nat → MaS → Bool × MaS} {i p k : Nat} {s : MaS} (hk : k < p) (h1 : s.sn.getD k true = false) (h2 : f i k = true) (h3 : s.po.getD k 0 < 0) : loopM f rc i (p - k) k s = (true, giveM (markM s k) k i) := by
  rw [show p - k = p - (k + 1) + 1 by omega, loopM, if_neg (by rw [h1, h2]; simp), if_pos h3]
theorem loop_yes {f : Nat → Nat → Bool} {rc : Nat → MaS → Bool × MaS} {i p k q : Nat} {s : MaS} (hk : k < p) (h1 : s.sn.getD k true = false) (h2 : f i k = true) (h3 : s.po.getD k 0 = (q : Int)) (h4 : (rc q (markM s k)).1 = true) : loopM f rc i (p - k) k s = (true, giveM (rc q (markM s k)).2 k i) := by
  rw [show p - k = p - (k + 1) + 1 by omega, loopM, if_neg (by rw [h1, h2]; simp), h3, if_neg (by omega), Int.toNat_natCast]
  generalize rc q (markM s k) = z at *
  obtain ⟨b, s2⟩ := z
  simp only at h4
  rw [h4]
theorem loop_no {f : Nat → Nat → Bool} {rc : Nat → MaS → Bool × MaS} {i p k q : Nat} {s : MaS} (hk : k < p) (h1 : s.sn.getD k true = false) (h2 : f i k = true) (h3 : s.po.getD k 0 = (q : Int)) (h4 : (rc q (markM s k)).1 = false) : loopM f rc i (p - k) k s = loopM f rc i (p - (k + 1)) (k + 1) (rc q (markM s k)).2 := by
  rw [show p - k = p - (k + 1) + 1 by omega, loopM, if_neg (by rw [h1, h2]; simp), h3, if_neg (by omega), Int.toNat_natCast]
  generalize rc q (markM s k) = z at *
  obtain ⟨b, s2⟩ := z
  simp only at h4
  rw [h4]
theorem okM_new {rows p : Nat} {po : List Int} (h1 : po.length = p) (h2 : ∀ k, k < p → po.getD k 0 = -1 ∨ (0 ≤ po.getD k 0 ∧ po.getD k 0 < rows)) : OkM rows p ⟨po, List.replicate p false⟩ ∧ openM ⟨po, List.replicate p false⟩ < p + 1 := by
  refine ⟨⟨h1, by simp, h2⟩, ?_⟩
  simp [openM]
theorem matM_ok (f : Nat → Nat → Bool) (rows p : Nat) (i : Nat) (hi : i ≤ rows) : (matM f p i).length = p ∧ ∀ k, k < p → (matM f p i).getD k 0 = -1 ∨ (0 ≤ (matM f p i).getD k 0 ∧ (matM f p i).getD k 0 < rows) := by
  induction i with
  | zero =>
    refine ⟨by simp [matM], fun k hk => .inl ?_⟩
    rw [matM, List.getD_eq_getElem?_getD, List.getElem?_replicate, if_pos hk]; rfl
  | succ i ih =>
    obtain ⟨h1, h2⟩ := ih (by omega)
    have h := (lookM_ok (f := f) (p + 1) i _ (by omega) (okM_new h1 h2).1).1
    exact ⟨h.lp, h.bd⟩
end Go.Proofs.Ytdbojkanelmlkaa.Plain
