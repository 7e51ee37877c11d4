/- Chains along a match, in plain lists: partners are not shared, each thing lies on a chain, and what is painted along the chains does not lean on what was there. No program stands here. -/
import Derived.Test.YtdbojkanelmlkaaMatchT
namespace Go.Proofs.Ytdbojkanelmlkaa.Plain

/-- what a search leaves: columns looked at keep their partners; a search that fails changes none; one that ends well keeps partners apart outside X -/
def Apart1 (po : List Int) (p : Nat) (X : Nat → Prop) : Prop := ∀ k k', k < p → k' < p → ¬ X k → ¬ X k' → 0 ≤ po.getD k 0 → po.getD k 0 = po.getD k' 0 → k = k'
structure LookOk (f : Nat → Nat → Bool) (p i : Nat) (X : Nat → Prop) (s : MaS) (r : Bool × MaS) : Prop where
  seen : ∀ k, s.sn.getD k true = true → r.2.sn.getD k true = true
  keep : ∀ k, s.sn.getD k true = true → r.2.po.getD k 0 = s.po.getD k 0
  fail : r.1 = false → r.2.po = s.po
  len : r.2.po.length = s.po.length
  len2 : r.2.sn.length = s.sn.length
  fits : (∀ k, k < p → 0 ≤ s.po.getD k 0 → f (s.po.getD k 0).toNat k = true) → ∀ k, k < p → 0 ≤ r.2.po.getD k 0 → f (r.2.po.getD k 0).toNat k = true
  apart : Apart1 s.po p X → (∀ k, X k → s.sn.getD k true = true) → (∀ k, k < p → ¬ X k → s.po.getD k 0 ≠ (i : Int)) →
    Apart1 r.2.po p X ∧ ∀ k, k < p → ¬ X k → r.2.po.getD k 0 = (i : Int) ∨ ∃ k', k' < p ∧ ¬ X k' ∧ s.po.getD k' 0 = r.2.po.getD k 0
theorem getD_setP {l : List Int} {k j : Nat} {v : Int} : (l.set k v).getD j 0 = if k = j ∧ k < l.length then v else l.getD j 0 := by
  simp only [List.getD_eq_getElem?_getD, List.getElem?_set]
  by_cases h : k = j
  · subst h
    by_cases h2 : k < l.length
    · simp [h2]
    · simp [h2]
  · simp [h]
theorem getD_setB {l : List Bool} {k j : Nat} : (l.set k true).getD j true = if k = j then true else l.getD j true := by
  simp only [List.getD_eq_getElem?_getD, List.getElem?_set]
  by_cases h : k = j
  · subst h
    by_cases h2 : k < l.length
    · simp [h2]
    · simp [h2]
  · simp [h]
theorem look_refl {f : Nat → Nat → Bool} {p i : Nat} {X : Nat → Prop} {s : MaS} : LookOk f p i X s (false, s) :=
  ⟨fun _ h => h, fun _ _ => rfl, fun _ => rfl, rfl, rfl, fun h => h, fun h _ _ => ⟨h, fun k hk hx => .inr ⟨k, hk, hx, rfl⟩⟩⟩
/-- a search that goes on behind a state with the same partners and more columns looked at -/
theorem look_on {f : Nat → Nat → Bool} {p i : Nat} {X : Nat → Prop} {s s2 : MaS} {r : Bool × MaS} (h1 : ∀ k, s.sn.getD k true = true → s2.sn.getD k true = true) (h2 : s2.po = s.po) (h3 : s2.sn.length = s.sn.length) (h : LookOk f p i X s2 r) : LookOk f p i X s r :=
  ⟨fun k hk => h.seen k (h1 k hk), fun k hk => by rw [h.keep k (h1 k hk), h2], fun e => by rw [h.fail e, h2], by rw [h.len, h2], by rw [h.len2, h3], fun e => h.fits (by rw [h2]; exact e), fun a b c => by
    have := h.apart (by rw [h2]; exact a) (fun k hk => h1 k (b k hk)) (by rw [h2]; exact c)
    rw [h2] at this
    exact this⟩
theorem look_free {f : Nat → Nat → Bool} {p i k : Nat} {X : Nat → Prop} {s : MaS} (hk : k < p) (hl : s.po.length = p) (hn : s.sn.getD k true = false) (hf : f i k = true) : LookOk f p i X s (true, giveM (markM s k) k i) := by
  refine ⟨fun j hj => ?_, fun j hj => ?_, (fun e => by cases e), by simp [giveM, markM], by simp [giveM, markM], fun h j hj h0 => ?_, fun a b c => ?_⟩
  · show (s.sn.set k true).getD j true = true
    rw [getD_setB]; split
    · rfl
    · exact hj
  · show (s.po.set k (i : Int)).getD j 0 = _
    rw [getD_setP, if_neg]
    rintro ⟨rfl, _⟩
    rw [hn] at hj; cases hj
  · change 0 ≤ (s.po.set k (i : Int)).getD j 0 at h0
    show f ((s.po.set k (i : Int)).getD j 0).toNat j = true
    rw [getD_setP] at h0 ⊢
    split
    · rename_i e
      rw [← e.1]; simpa using hf
    · rename_i e
      rw [if_neg e] at h0
      exact h j hj h0
  · have xk : ¬ X k := fun hx => by have := b k hx; rw [hn] at this; cases this
    have g : ∀ j, (giveM (markM s k) k i).po.getD j 0 = if k = j then (i : Int) else s.po.getD j 0 := by
      intro j
      show (s.po.set k (i : Int)).getD j 0 = _
      rw [getD_setP]
      by_cases e : k = j
      · rw [if_pos ⟨e, by omega⟩, if_pos e]
      · rw [if_neg (fun h => e h.1), if_neg e]
    refine ⟨fun j j' hj hj' xj xj' h0 he => ?_, fun j hj xj => ?_⟩
    · simp only [g] at h0 he
      by_cases e : k = j
      · by_cases e' : k = j'
        · omega
        · rw [if_pos e, if_neg e'] at he
          exact absurd he.symm (c j' hj' xj')
      · by_cases e' : k = j'
        · rw [if_neg e, if_pos e'] at he
          exact absurd he (c j hj xj)
        · rw [if_neg e] at h0
          rw [if_neg e, if_neg e'] at he
          exact a j j' hj hj' xj xj' h0 he
    · simp only [g]
      by_cases e : k = j
      · left; rw [if_pos e]
      · right; exact ⟨j, hj, xj, by rw [if_neg e]⟩
theorem look_give {f : Nat → Nat → Bool} {p i k q : Nat} {X : Nat → Prop} {s s2 : MaS} (hk : k < p) (hl : s.po.length = p) (hn : s.sn.getD k true = false) (hf : f i k = true) (hq : s.po.getD k 0 = (q : Int))
    (h : ∀ Y, LookOk f p q Y (markM s k) (true, s2)) : LookOk f p i X s (true, giveM s2 k i) := by
  have hl2 : s2.po.length = p := by rw [(h X).len]; exact hl
  have g : ∀ j, (giveM s2 k i).po.getD j 0 = if k = j then (i : Int) else s2.po.getD j 0 := by
    intro j
    show (s2.po.set k (i : Int)).getD j 0 = _
    rw [getD_setP]
    by_cases e : k = j
    · rw [if_pos ⟨e, by omega⟩, if_pos e]
    · rw [if_neg (fun h => e h.1), if_neg e]
  have mk : ∀ j, s.sn.getD j true = true → (markM s k).sn.getD j true = true := by
    intro j hj
    show (s.sn.set k true).getD j true = true
    rw [getD_setB]; split
    · rfl
    · exact hj
  refine ⟨fun j hj => (h X).seen j (mk j hj), fun j hj => ?_, (fun e => by cases e), ?_, by rw [show (giveM s2 k i).sn = s2.sn from rfl, (h X).len2]; simp [markM], fun hh j hj h0 => ?_, fun a b c => ?_⟩
  · rw [g, if_neg (fun e => by subst e; rw [hn] at hj; cases hj)]
    exact (h X).keep j (mk j hj)
  · show (s2.po.set k (i : Int)).length = _
    rw [List.length_set, hl2, hl]
  · simp only [g] at h0 ⊢
    by_cases e : k = j
    · rw [if_pos e, ← e]; simpa using hf
    · rw [if_neg e] at h0 ⊢
      exact (h X).fits hh j hj h0
  · have xk : ¬ X k := fun hx => by have := b k hx; rw [hn] at this; cases this
    have A := (h (fun j => X j ∨ j = k)).apart (fun j j' hj hj' xj xj' h0 he => a j j' hj hj' (fun x => xj (.inl x)) (fun x => xj' (.inl x)) h0 he)
      (fun j hj => by
        rcases hj with hj | hj
        · exact mk j (b j hj)
        · subst hj
          show (s.sn.set j true).getD j true = true
          rw [getD_setB, if_pos rfl])
      (fun j hj xj e => xj (.inr (a k j hk hj xk (fun x => xj (.inl x)) (by omega) (by rw [hq]; exact e.symm)).symm))
    obtain ⟨A1, A2⟩ := A
    -- a partner outside X and k is no i
    have ni : ∀ j, j < p → ¬ X j → j ≠ k → s2.po.getD j 0 ≠ (i : Int) := by
      intro j hj xj hjk e
      rcases A2 j hj (fun x => x.elim xj hjk) with h1 | ⟨k', hk', xk', e'⟩
      · exact c k hk xk (by rw [hq, ← h1, e])
      · exact c k' hk' (fun x => xk' (.inl x)) (by rw [show s.po.getD k' 0 = s2.po.getD j 0 from e', e])
    refine ⟨fun j j' hj hj' xj xj' h0 he => ?_, fun j hj xj => ?_⟩
    · simp only [g] at h0 he
      by_cases e : k = j
      · by_cases e' : k = j'
        · omega
        · rw [if_pos e, if_neg e'] at he
          exact absurd he.symm (ni j' hj' xj' (fun x => e' x.symm))
      · by_cases e' : k = j'
        · rw [if_neg e, if_pos e'] at he
          exact absurd he (ni j hj xj (fun x => e x.symm))
        · rw [if_neg e] at h0
          rw [if_neg e, if_neg e'] at he
          exact A1 j j' hj hj' (fun x => x.elim xj (fun y => e y.symm)) (fun x => x.elim xj' (fun y => e' y.symm)) h0 he
    · simp only [g]
      by_cases e : k = j
      · left; rw [if_pos e]
      · right
        rw [if_neg e]
        rcases A2 j hj (fun x => x.elim xj (fun y => e y.symm)) with h1 | ⟨k', hk', xk', e'⟩
        · exact ⟨k, hk, xk, by rw [hq, h1]⟩
        · exact ⟨k', hk', fun x => xk' (.inl x), e'⟩
theorem loop_look {f : Nat → Nat → Bool} {rows p i : Nat} {rc : Nat → MaS → Bool × MaS} (hr : ∀ i s, i < rows → OkM rows p s → OkM rows p (rc i s).2 ∧ ∀ X, LookOk f p i X s (rc i s)) (hi : i < rows) (r : Nat) :
    ∀ (k : Nat) (s : MaS), k + r = p → OkM rows p s → ∀ X, LookOk f p i X s (loopM f rc i r k s) := by
  induction r with
  | zero => intro k s _ _ X; exact look_refl
  | succ r ih =>
    intro k s hk h X
    rw [loopM]
    split
    · exact ih (k + 1) s (by omega) h X
    · rename_i hc
      have hs : s.sn.getD k true = false := by
        cases e : s.sn.getD k true with
        | false => rfl
        | true => rw [e] at hc; simp at hc
      have hf : f i k = true := by
        cases e : f i k with
        | true => rfl
        | false => rw [e] at hc; simp at hc
      split
      · exact look_free (by omega) h.lp hs hf
      · rename_i hn
        have hb := h.bd k (by omega)
        obtain ⟨q, hq⟩ : ∃ q : Nat, s.po.getD k 0 = (q : Int) := ⟨(s.po.getD k 0).toNat, by omega⟩
        have hx := hr q (markM s k) (by omega) (h.mark k)
        rw [hq, Int.toNat_natCast]
        generalize rc q (markM s k) = z at *
        obtain ⟨b, s2⟩ := z
        cases b with
        | true => exact look_give (by omega) h.lp hs hf hq hx.2
        | false =>
          have hy := hx.2 X
          refine look_on (fun j hj => hy.seen j ?_) (hy.fail rfl) (by rw [hy.len2]; simp [markM]) (ih (k + 1) s2 (by omega) hx.1 X)
          show (s.sn.set k true).getD j true = true
          rw [getD_setB]; split
          · rfl
          · exact hj
theorem look_look {f : Nat → Nat → Bool} {rows p : Nat} (n : Nat) : ∀ (i : Nat) (s : MaS), i < rows → OkM rows p s → OkM rows p (lookM f p n i s).2 ∧ ∀ X, LookOk f p i X s (lookM f p n i s) := by
  induction n with
  | zero => intro i s _ h; exact ⟨h, fun X => look_refl⟩
  | succ n ih => intro i s hi h; exact ⟨(lookM_ok (n + 1) i s hi h).1, loop_look ih hi p 0 s (by omega) h⟩
/-- what a match is: rows are not shared, each fits, all below i -/
theorem mat_good (f : Nat → Nat → Bool) (rows p : Nat) (i : Nat) (hi : i ≤ rows) : Apart1 (matM f p i) p (fun _ => False) ∧ (∀ k, k < p → 0 ≤ (matM f p i).getD k 0 → f ((matM f p i).getD k 0).toNat k = true) ∧ ∀ k, k < p → (matM f p i).getD k 0 < i := by
  induction i with
  | zero =>
    have z : ∀ k, k < p → (matM f p 0).getD k 0 = -1 := by
      intro k hk
      rw [matM, List.getD_eq_getElem?_getD, List.getElem?_replicate, if_pos hk]; rfl
    exact ⟨fun k k' hk _ _ _ h0 _ => by rw [z k hk] at h0; omega, fun k hk h0 => by rw [z k hk] at h0; omega, fun k hk => by rw [z k hk]; omega⟩
  | succ i ih =>
    obtain ⟨h1, h2, h3⟩ := ih (by omega)
    have m := matM_ok f rows p i (by omega)
    have L := (look_look (f := f) (p + 1) i _ (by omega) (okM_new m.1 m.2).1).2 (fun _ => False)
    have A := L.apart h1 (fun k h => h.elim) (fun k hk _ e => by have := h3 k hk; simp only at e; omega)
    refine ⟨A.1, L.fits h2, fun k hk => ?_⟩
    rcases A.2 k hk (fun h => h) with h | ⟨k', hk', _, e⟩
    · show (lookM f p (p + 1) i ⟨matM f p i, List.replicate p false⟩).2.po.getD k 0 < _
      rw [h]; push_cast; omega
    · show (lookM f p (p + 1) i ⟨matM f p i, List.replicate p false⟩).2.po.getD k 0 < _
      rw [← e]
      have := h3 k' hk'
      simp only at *
      push_cast; omega

/-- the first place of a number among the first m, -1 if there is none -/
def firstI (po : List Int) (x : Int) : Nat → Int
  | 0 => -1
  | m + 1 => if 0 ≤ firstI po x m then firstI po x m else if po.getD m 0 = x then (m : Int) else -1
theorem first_none {po : List Int} {x : Int} {m : Nat} (h : ∀ j, j < m → po.getD j 0 ≠ x) : firstI po x m = -1 := by
  induction m with
  | zero => rfl
  | succ m ih => rw [firstI, ih (fun j hj => h j (by omega)), if_neg (by omega), if_neg (h m (by omega))]
theorem first_found {po : List Int} {x : Int} {m k : Nat} (hk : k < m) (hx : po.getD k 0 = x) (h : ∀ j, j < k → po.getD j 0 ≠ x) : firstI po x m = k := by
  induction m with
  | zero => omega
  | succ m ih =>
    rw [firstI]
    by_cases e : k < m
    · rw [ih e, if_pos (by omega)]
    · have : k = m := by omega
      subst this
      rw [first_none h, if_neg (by omega), if_pos hx]
theorem first_is {po : List Int} {x : Int} {m : Nat} : firstI po x m = -1 ∨ ∃ k : Nat, k < m ∧ firstI po x m = k ∧ po.getD k 0 = x := by
  induction m with
  | zero => left; rfl
  | succ m ih =>
    rw [firstI]
    rcases ih with h | ⟨k, hk, e, hx⟩
    · rw [h, if_neg (by omega)]
      by_cases e : po.getD m 0 = x
      · right; exact ⟨m, by omega, by rw [if_pos e], e⟩
      · left; rw [if_neg e]
    · right; exact ⟨k, by omega, by rw [e, if_pos (by omega)], hx⟩
/-- the list that tells each row's column, behind k columns -/
def behV (po : List Int) (n : Nat) : Nat → List Int
  | 0 => List.replicate n (-1)
  | k + 1 => if 0 ≤ po.getD k 0 then (behV po n k).set (po.getD k 0).toNat k else behV po n k
theorem behV_len (po : List Int) (n k : Nat) : (behV po n k).length = n := by
  induction k with
  | zero => simp [behV]
  | succ k ih => rw [behV]; split <;> simp [ih]
theorem behV_yes {po : List Int} {n k r : Nat} (h : po.getD k 0 = (r : Int)) : behV po n (k + 1) = (behV po n k).set r k := by
  rw [behV, h, if_pos (by omega), Int.toNat_natCast]
theorem behV_no {po : List Int} {n k : Nat} (h : po.getD k 0 < 0) : behV po n (k + 1) = behV po n k := by
  rw [behV, if_neg (by omega)]
theorem behV_first {po : List Int} {n p : Nat} (ha : Apart1 po p (fun _ => False)) (hb : ∀ k, k < p → po.getD k 0 < n) (k : Nat) (hk : k ≤ p) (x : Nat) (hx : x < n) : (behV po n k).getD x 0 = firstI po x k := by
  induction k with
  | zero => rw [behV, List.getD_eq_getElem?_getD, List.getElem?_replicate, if_pos hx]; rfl
  | succ k ih =>
    have i := ih (by omega)
    by_cases h0 : 0 ≤ po.getD k 0
    · obtain ⟨r, hr⟩ : ∃ r : Nat, po.getD k 0 = (r : Int) := ⟨(po.getD k 0).toNat, by omega⟩
      have := hb k (by omega)
      rw [behV_yes hr, getD_setP, behV_len, firstI]
      by_cases e : r = x
      · subst e
        rw [if_pos ⟨rfl, by omega⟩]
        rcases first_is (po := po) (x := (r : Int)) (m := k) with h | ⟨j, hj, _, e2⟩
        · rw [h, if_neg (by omega), if_pos hr]
        · have := ha k j (by omega) (by omega) (fun h => h) (fun h => h) h0 (by rw [hr, e2])
          omega
      · rw [if_neg (fun h => e h.1), i]
        rcases first_is (po := po) (x := (x : Int)) (m := k) with h | ⟨j, hj, e1, e2⟩
        · rw [h, if_neg (by omega), if_neg (by rw [hr]; omega)]
        · rw [e1, if_pos (by omega)]
    · rw [behV_no (by omega), i, firstI]
      rcases first_is (po := po) (x := (x : Int)) (m := k) with h | ⟨j, hj, e1, e2⟩
      · rw [h, if_neg (by omega), if_neg (by omega)]
      · rw [e1, if_pos (by omega)]

/-- a number written along a chain -/
def paintV (nx : Nat → Int) (ct : Nat) : Nat → Int → List Int → List Int
  | 0, _, out => out
  | F + 1, a, out => if a < 0 then out else paintV nx ct F (nx a.toNat) (out.set a.toNat ct)
def visV (nx : Nat → Int) : Nat → Int → List Nat
  | 0, _ => []
  | F + 1, a => if a < 0 then [] else a.toNat :: visV nx F (nx a.toNat)
def vehV (po : List Int) (nx : Nat → Int) (F : Nat) (o : List Int) : Nat → List Int × Nat
  | 0 => (o, 0)
  | i + 1 => if 0 ≤ po.getD i 0 then vehV po nx F o i else (paintV nx (vehV po nx F o i).2 F i (vehV po nx F o i).1, (vehV po nx F o i).2 + 1)
theorem paint_end {nx : Nat → Int} {ct F : Nat} {a : Int} {out : List Int} (h : a < 0) : paintV nx ct F a out = out := by
  cases F with
  | zero => rfl
  | succ F => rw [paintV, if_pos h]
theorem paint_len (nx : Nat → Int) (ct F : Nat) : ∀ (a : Int) (out : List Int), (paintV nx ct F a out).length = out.length := by
  induction F with
  | zero => intro a out; rfl
  | succ F ih => intro a out; rw [paintV]; split <;> simp [ih]
theorem paint_agree (nx : Nat → Int) (ct F : Nat) : ∀ (a : Int) (o1 o2 : List Int), o1.length = o2.length → ∀ k, k < o1.length → (k ∈ visV nx F a ∨ o1.getD k 0 = o2.getD k 0) → (paintV nx ct F a o1).getD k 0 = (paintV nx ct F a o2).getD k 0 := by
  induction F with
  | zero => intro a o1 o2 hl k hk h; rcases h with h | h <;> first | (simp [visV] at h; done) | exact h
  | succ F ih =>
    intro a o1 o2 hl k hk h
    rw [paintV, paintV]
    by_cases ha : a < 0
    · rw [if_pos ha, if_pos ha]
      rcases h with h | h
      · simp [visV, ha] at h
      · exact h
    · rw [if_neg ha, if_neg ha]
      refine ih _ _ _ (by simpa using hl) k (by simpa using hk) ?_
      by_cases e : a.toNat = k
      · right
        rw [getD_setP, getD_setP, if_pos ⟨e, by omega⟩, if_pos ⟨e, by omega⟩]
      · rcases h with h | h
        · left
          rw [visV, if_neg ha, List.mem_cons] at h
          rcases h with h | h
          · exact absurd h.symm e
          · exact h
        · right
          rw [getD_setP, getD_setP, if_neg (fun x => e x.1), if_neg (fun x => e x.1)]
          exact h
theorem veh_len (po : List Int) (nx : Nat → Int) (F : Nat) (o : List Int) (i : Nat) : (vehV po nx F o i).1.length = o.length := by
  induction i with
  | zero => rfl
  | succ i ih => rw [vehV]; split <;> simp [ih, paint_len]
theorem veh_agree (po : List Int) (nx : Nat → Int) (F : Nat) (o1 o2 : List Int) (hl : o1.length = o2.length) (i : Nat) : (vehV po nx F o1 i).2 = (vehV po nx F o2 i).2 ∧ ∀ k, k < o1.length → (∃ r, r < i ∧ po.getD r 0 < 0 ∧ k ∈ visV nx F r) → (vehV po nx F o1 i).1.getD k 0 = (vehV po nx F o2 i).1.getD k 0 := by
  induction i with
  | zero => exact ⟨rfl, fun k _ ⟨r, h, _⟩ => by omega⟩
  | succ i ih =>
    obtain ⟨h1, h2⟩ := ih
    rw [vehV, vehV]
    by_cases h0 : 0 ≤ po.getD i 0
    · rw [if_pos h0, if_pos h0]
      refine ⟨h1, fun k hk ⟨r, hr, hn, hm⟩ => h2 k hk ⟨r, ?_, hn, hm⟩⟩
      rcases Nat.lt_or_ge r i with h | h
      · exact h
      · have : r = i := by omega
        subst this; omega
    · rw [if_neg h0, if_neg h0]
      refine ⟨by simp only; rw [h1], fun k hk ⟨r, hr, hn, hm⟩ => ?_⟩
      simp only
      rw [h1]
      refine paint_agree _ _ _ _ _ _ (by rw [veh_len, veh_len, hl]) k (by rw [veh_len]; exact hk) ?_
      rcases Nat.lt_or_ge r i with h | h
      · exact .inr (h2 k hk ⟨r, h, hn, hm⟩)
      · have : r = i := by omega
        subst this
        exact .inl hm
theorem vis_next {nx : Nat → Int} {g : Nat → Nat} {n : Nat} (hg : ∀ x, g x ≤ 10000) (hx : ∀ x, x < n → nx x < 0 ∨ (0 ≤ nx x ∧ nx x < n ∧ g x < g (nx x).toNat)) (F : Nat) : ∀ (a : Int), a < n → (a < 0 ∨ 10001 - g a.toNat ≤ F) → ∀ x, x ∈ visV nx F a → 0 ≤ nx x → (nx x).toNat ∈ visV nx F a := by
  induction F with
  | zero => intro a _ _ x h; simp [visV] at h
  | succ F ih =>
    intro a han ha x h h0
    rw [visV] at h ⊢
    by_cases hn : a < 0
    · rw [if_pos hn] at h; simp at h
    · rw [if_neg hn] at h ⊢
      have hl : 10001 - g a.toNat ≤ F + 1 := by omega
      have hga := hg a.toNat
      have hstep := hx a.toNat (by omega)
      rw [List.mem_cons] at h ⊢
      right
      rcases h with h | h
      · subst h
        rcases hstep with h | ⟨_, h3, h4⟩
        · omega
        · have := hg (nx a.toNat).toNat
          obtain ⟨F', rfl⟩ : ∃ F', F = F' + 1 := ⟨F - 1, by omega⟩
          rw [visV, if_neg (by omega)]
          simp
      · refine ih (nx a.toNat) ?_ ?_ x h h0
        · rcases hstep with h | ⟨_, h, _⟩ <;> omega
        · rcases hstep with h | ⟨_, _, h⟩
          · exact .inl h
          · right; omega
/-- all is painted: what was there is not seen -/
theorem veh_same {po : List Int} {nx : Nat → Int} {g : Nat → Nat} {n : Nat} (hg : ∀ x, g x ≤ 10000) (hx : ∀ x, x < n → nx x < 0 ∨ (0 ≤ nx x ∧ nx x < n ∧ g x < g (nx x).toNat)) (hp : ∀ k, k < n → po.getD k 0 < 0 ∨ (0 ≤ po.getD k 0 ∧ po.getD k 0 < n ∧ nx (po.getD k 0).toNat = k))
    (o1 o2 : List Int) (h1 : o1.length = n) (h2 : o2.length = n) : vehV po nx 10001 o1 n = vehV po nx 10001 o2 n := by
  have all : ∀ m k, k < n → g k < m → ∃ r, r < n ∧ po.getD r 0 < 0 ∧ k ∈ visV nx 10001 r := by
    intro m
    induction m with
    | zero => intro k _ h; omega
    | succ m ih =>
      intro k hk hm
      rcases hp k hk with h | ⟨h3, h4, h5⟩
      · refine ⟨k, hk, h, ?_⟩
        rw [visV, if_neg (by omega)]
        simp
      · rcases hx (po.getD k 0).toNat (by omega) with h | ⟨_, _, h6⟩
        · rw [h5] at h; omega
        · rw [h5, Int.toNat_natCast] at h6
          obtain ⟨r, r1, r2, r3⟩ := ih (po.getD k 0).toNat (by omega) (by omega)
          have := vis_next hg hx 10001 (r : Int) (by omega) (.inr (by omega)) _ r3 (by rw [h5]; omega)
          rw [h5, Int.toNat_natCast] at this
          exact ⟨r, r1, r2, this⟩
  have A := veh_agree po nx 10001 o1 o2 (by omega) n
  refine Prod.ext (List.ext_getElem? fun k => ?_) A.1
  by_cases hk : k < n
  · have e := A.2 k (by omega) (all (g k + 1) k hk (by omega))
    have l1 := veh_len po nx 10001 o1 n
    have l2 := veh_len po nx 10001 o2 n
    rw [List.getD_eq_getElem?_getD, List.getD_eq_getElem?_getD, List.getElem?_eq_getElem (by omega), List.getElem?_eq_getElem (by omega)] at e
    rw [List.getElem?_eq_getElem (by omega), List.getElem?_eq_getElem (by omega)]
    simpa using e
  · rw [List.getElem?_eq_none (by rw [veh_len]; omega), List.getElem?_eq_none (by rw [veh_len]; omega)]
end Go.Proofs.Ytdbojkanelmlkaa.Plain
