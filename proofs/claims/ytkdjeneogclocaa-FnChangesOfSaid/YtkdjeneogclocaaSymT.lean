/- The merge of a stable sort (by rotations), in plain functions. No program stands here. -/
import Derived.Test.YtkdjeneogclocaaPlain
namespace Go.Proofs.Ytkdjeneogclocaa.Plain
set_option linter.unusedVariables false
set_option linter.unusedSimpArgs false
/-- c places from a on and c places from b on change their contents -/
def swF (f : Nat → Int) (a b c k : Nat) : Int := if a ≤ k ∧ k < a + c then f (k - a + b) else if b ≤ k ∧ k < b + c then f (k - b + a) else f k
/-- the blocks from a to m and from m to b change their places -/
def rotF (f : Nat → Int) (a m b k : Nat) : Int := if a ≤ k ∧ k < a + (b - m) then f (m + (k - a)) else if a + (b - m) ≤ k ∧ k < b then f (a + (k - (a + (b - m)))) else f k
theorem swF_zero (f : Nat → Int) (a b : Nat) : swF f a b 0 = f := by
  funext k
  rw [swF, if_neg (by omega), if_neg (by omega)]
theorem swF_step (f : Nat → Int) (a b c : Nat) (h : a + c < b) : swF f a b (c + 1) = fun k => if k = a + c then swF f a b c (b + c) else if k = b + c then swF f a b c (a + c) else swF f a b c k := by
  funext k
  have e1 : swF f a b c (b + c) = f (b + c) := by rw [swF, if_neg (by omega), if_neg (by omega)]
  have e2 : swF f a b c (a + c) = f (a + c) := by rw [swF, if_neg (by omega), if_neg (by omega)]
  simp only [e1, e2]
  by_cases h1 : k = a + c
  · rw [if_pos h1, swF, if_pos (by omega)]; congr 1; omega
  · rw [if_neg h1]
    by_cases h2 : k = b + c
    · rw [if_pos h2, swF, if_neg (by omega), if_pos (by omega)]; congr 1; omega
    · rw [if_neg h2, swF, swF]
      by_cases h3 : a ≤ k ∧ k < a + c
      · rw [if_pos (by omega), if_pos h3]
      · rw [if_neg (by omega), if_neg h3]
        by_cases h4 : b ≤ k ∧ k < b + c
        · rw [if_pos (by omega), if_pos h4]
        · rw [if_neg (by omega), if_neg h4]
theorem rot_left (f : Nat → Int) (m i j : Nat) (hi : i ≤ m) (hj : j < i) : rotF (swF f (m - i) m j) (m - (i - j)) m (m + j) = rotF f (m - i) m (m + j) := by
  funext k
  simp only [rotF, swF]
  repeat' split
  all_goals first | rfl | (congr 1; omega) | omega
theorem rot_right (f : Nat → Int) (m i j : Nat) (hi : i ≤ m) (hj : i < j) : rotF (swF f (m - i) (m + j - i) i) (m - i) m (m + (j - i)) = rotF f (m - i) m (m + j) := by
  funext k
  simp only [rotF, swF]
  repeat' split
  all_goals first | rfl | (congr 1; omega) | omega
theorem rot_even (f : Nat → Int) (m i : Nat) (hi : i ≤ m) : swF f (m - i) m i = rotF f (m - i) m (m + i) := by
  funext k
  simp only [rotF, swF]
  repeat' split
  all_goals first | rfl | (congr 1; omega) | omega
theorem rot_no (f : Nat → Int) (a m b : Nat) (h1 : a ≤ m) (h2 : m ≤ b) (h : ¬ (a < m ∧ m < b)) : rotF f a m b = f := by
  funext k
  simp only [rotF]
  repeat' split
  all_goals first | rfl | (congr 1; omega) | omega
/-- two parts in order, the places of the first are before those of the second -/
structure SymPre (Q : Int → Int) (f : Nat → Int) (a m b : Nat) : Prop where
  l : ∀ i j, a ≤ i → i < j → j < m → Q (f i) < Q (f j)
  r : ∀ i j, m ≤ i → i < j → j < b → Q (f i) < Q (f j)
  x : ∀ i j, a ≤ i → i < m → m ≤ j → j < b → f i < f j
/-- from a to b the same stands in order; elsewhere nothing has turned -/
structure SymPost (Q : Int → Int) (f g : Nat → Int) (a b : Nat) : Prop where
  out : ∀ k, k < a ∨ b ≤ k → g k = f k
  mem : ∀ k, a ≤ k → k < b → ∃ j, a ≤ j ∧ j < b ∧ g k = f j
  srt : ∀ i j, a ≤ i → i < j → j < b → Q (g i) < Q (g j)
theorem sym_same {Q : Int → Int} {f : Nat → Int} {a b : Nat} (h : ∀ i j, a ≤ i → i < j → j < b → Q (f i) < Q (f j)) : SymPost Q f f a b :=
  ⟨fun _ _ => rfl, fun k h1 h2 => ⟨k, h1, h2, rfl⟩, h⟩
theorem rot_lo {f : Nat → Int} {a m b k : Nat} (h : k < a) : rotF f a m b k = f k := by rw [rotF, if_neg (by omega)]; split <;> first | omega | rfl
theorem rot_hi {f : Nat → Int} {a m b k : Nat} (h0 : a ≤ m) (h : b ≤ k) (hm : m ≤ b) : rotF f a m b k = f k := by rw [rotF, if_neg (by omega), if_neg (by omega)]
theorem rot_1 {f : Nat → Int} {a m b k : Nat} (h : a ≤ k) (h2 : k < a + (b - m)) : rotF f a m b k = f (m + (k - a)) := by rw [rotF, if_pos ⟨h, h2⟩]
theorem rot_2 {f : Nat → Int} {a m b k : Nat} (h : a + (b - m) ≤ k) (h2 : k < b) : rotF f a m b k = f (a + (k - (a + (b - m)))) := by rw [rotF, if_neg (by omega), if_pos ⟨h, h2⟩]
/-- the bounds of the two parts behind the search -/
structure SymMid (Q : Int → Int) (f : Nat → Int) (a m b mid s e : Nat) : Prop where
  am : a ≤ s
  sm : s ≤ m
  me : m ≤ e
  eb : e ≤ b
  mid : mid + m = s + e
  c1 : a < s → e < b → Q (f (s - 1)) < Q (f e)
  c2 : s < m → m < e → Q (f (e - 1)) < Q (f s)
theorem sym_left {Q : Int → Int} {f : Nat → Int} {a m b mid s e : Nat} (h : SymPre Q f a m b) (k : SymMid Q f a m b mid s e) : SymPre Q (rotF f s m e) a s mid := by
  obtain ⟨h1, h2, h3, h4, h5, _, _⟩ := k
  refine ⟨fun i j hi hij hj => ?_, fun i j hi hij hj => ?_, fun i j hi hi2 hj hj2 => ?_⟩
  · rw [rot_lo (by omega), rot_lo (by omega)]; exact h.l i j hi hij (by omega)
  · rw [rot_1 hi (by omega), rot_1 (by omega) (by omega)]; exact h.r _ _ (by omega) (by omega) (by omega)
  · rw [rot_lo hi2, rot_1 hj (by omega)]; exact h.x _ _ hi (by omega) (by omega) (by omega)
theorem sym_right {Q : Int → Int} {f g : Nat → Int} {a m b mid s e : Nat} (h : SymPre Q f a m b) (k : SymMid Q f a m b mid s e) (hg : ∀ x, mid ≤ x → g x = rotF f s m e x) : SymPre Q g mid e b := by
  obtain ⟨h1, h2, h3, h4, h5, _, _⟩ := k
  refine ⟨fun i j hi hij hj => ?_, fun i j hi hij hj => ?_, fun i j hi hi2 hj hj2 => ?_⟩
  · rw [hg i hi, hg j (by omega), rot_2 (by omega) (by omega), rot_2 (by omega) hj]; exact h.l _ _ (by omega) (by omega) (by omega)
  · rw [hg i (by omega), hg j (by omega), rot_hi (by omega) hi (by omega), rot_hi (by omega) (by omega) (by omega)]; exact h.r _ _ (by omega) hij hj
  · rw [hg i hi, hg j (by omega), rot_2 (by omega) hi2, rot_hi (by omega) hj (by omega)]; exact h.x _ _ (by omega) (by omega) (by omega) hj2
theorem sym_join {Q : Int → Int} {f g1 g2 : Nat → Int} {a m b mid s e : Nat} (h : SymPre Q f a m b) (k : SymMid Q f a m b mid s e) (p1 : SymPost Q (rotF f s m e) g1 a mid) (p2 : SymPost Q g1 g2 mid b) : SymPost Q f g2 a b := by
  have lo : ∀ x, a ≤ x → x < mid → (∃ y, a ≤ y ∧ y < s ∧ rotF f s m e x = f y) ∨ ∃ y, m ≤ y ∧ y < e ∧ rotF f s m e x = f y := fun x h1 h2 => by
    obtain ⟨h1', h2', h3', h4', h5', _, _⟩ := k
    by_cases hx : x < s
    · exact .inl ⟨x, h1, hx, rot_lo hx⟩
    · exact .inr ⟨m + (x - s), by omega, by omega, rot_1 (by omega) (by omega)⟩
  have hi : ∀ x, mid ≤ x → x < b → (∃ y, s ≤ y ∧ y < m ∧ rotF f s m e x = f y) ∨ ∃ y, e ≤ y ∧ y < b ∧ rotF f s m e x = f y := fun x h1 h2 => by
    obtain ⟨h1', h2', h3', h4', h5', _, _⟩ := k
    by_cases hx : x < e
    · exact .inl ⟨s + (x - mid), by omega, by omega, by rw [rot_2 (by omega) hx]; congr 1; omega⟩
    · exact .inr ⟨x, by omega, h2, rot_hi (by omega) (by omega) (by omega)⟩
  obtain ⟨k1, k2, k3, k4, k5, c1, c2⟩ := k
  have g2lo : ∀ x, a ≤ x → x < mid → ∃ y, a ≤ y ∧ y < mid ∧ g2 x = rotF f s m e y := fun x h1 h2 => by
    obtain ⟨y, y1, y2, ye⟩ := p1.mem x h1 h2
    exact ⟨y, y1, y2, (p2.out x (.inl h2)).trans ye⟩
  have g2hi : ∀ x, mid ≤ x → x < b → ∃ y, mid ≤ y ∧ y < b ∧ g2 x = rotF f s m e y := fun x h1 h2 => by
    obtain ⟨y, y1, y2, ye⟩ := p2.mem x h1 h2
    exact ⟨y, y1, y2, ye.trans (p1.out y (.inr y1))⟩
  refine ⟨fun x hx => ?_, fun x h1 h2 => ?_, fun i j h1 h2 h3 => ?_⟩
  · rw [p2.out x (by omega), p1.out x (by omega)]
    rcases hx with hx | hx
    · exact rot_lo (by omega)
    · exact rot_hi (by omega) (by omega) (by omega)
  · rcases Nat.lt_or_ge x mid with hm | hm
    · obtain ⟨y, y1, y2, ye⟩ := g2lo x h1 hm
      rcases lo y y1 y2 with ⟨z, z1, z2, ze⟩ | ⟨z, z1, z2, ze⟩
      · exact ⟨z, z1, by omega, ye.trans ze⟩
      · exact ⟨z, by omega, by omega, ye.trans ze⟩
    · obtain ⟨y, y1, y2, ye⟩ := g2hi x hm h2
      rcases hi y y1 y2 with ⟨z, z1, z2, ze⟩ | ⟨z, z1, z2, ze⟩
      · exact ⟨z, by omega, by omega, ye.trans ze⟩
      · exact ⟨z, by omega, by omega, ye.trans ze⟩
  · rcases Nat.lt_or_ge j mid with hm | hm
    · rw [p2.out i (by omega), p2.out j (by omega)]
      exact p1.srt i j h1 h2 hm
    · rcases Nat.lt_or_ge i mid with hm2 | hm2
      · obtain ⟨y, y1, y2, ye⟩ := g2lo i h1 hm2
        obtain ⟨y', y1', y2', ye'⟩ := g2hi j hm h3
        rw [ye, ye']
        rcases lo y y1 y2 with ⟨z, z1, z2, ze⟩ | ⟨z, z1, z2, ze⟩ <;> rcases hi y' y1' y2' with ⟨z', z1', z2', ze'⟩ | ⟨z', z1', z2', ze'⟩ <;> rw [ze, ze']
        · exact h.l _ _ z1 (by omega) z2'
        · have q := c1 (by omega) (by omega)
          have q1 : Q (f z) ≤ Q (f (s - 1)) := by
            by_cases e1 : z = s - 1
            · rw [e1]; exact Int.le_refl _
            · exact Int.le_of_lt (h.l _ _ z1 (by omega) (by omega))
          have q2 : Q (f e) ≤ Q (f z') := by
            by_cases e1 : e = z'
            · rw [e1]; exact Int.le_refl _
            · exact Int.le_of_lt (h.r _ _ (by omega) (by omega) z2')
          omega
        · have q := c2 (by omega) (by omega)
          have q1 : Q (f z) ≤ Q (f (e - 1)) := by
            by_cases e1 : z = e - 1
            · rw [e1]; exact Int.le_refl _
            · exact Int.le_of_lt (h.r _ _ z1 (by omega) (by omega))
          have q2 : Q (f s) ≤ Q (f z') := by
            by_cases e1 : s = z'
            · rw [e1]; exact Int.le_refl _
            · exact Int.le_of_lt (h.l _ _ (by omega) (by omega) z2')
          omega
        · exact h.r _ _ z1 (by omega) z2'
      · exact p2.srt i j hm2 h2 h3
/-- one place is put in among those behind it -/
theorem sym_one {Q : Int → Int} {f : Nat → Int} {a b i : Nat} (h : SymPre Q f a (a + 1) b) (i1 : a + 1 ≤ i) (i2 : i ≤ b) (c1 : a + 1 < i → Q (f (i - 1)) < Q (f a)) (c2 : i < b → Q (f a) < Q (f i)) : SymPost Q f (rotF f a (a + 1) i) a b := by
  refine ⟨fun k hk => ?_, fun k k1 k2 => ?_, fun x y x1 xy y2 => ?_⟩
  · rcases hk with hk | hk
    · exact rot_lo hk
    · exact rot_hi (by omega) (by omega) (by omega)
  · by_cases e1 : k < i - 1
    · exact ⟨a + 1 + (k - a), by omega, by omega, rot_1 k1 (by omega)⟩
    · by_cases e2 : k < i
      · exact ⟨a, by omega, by omega, by rw [rot_2 (by omega) e2]; congr 1; omega⟩
      · exact ⟨k, k1, k2, rot_hi (by omega) (by omega) (by omega)⟩
  · have low : ∀ z, a ≤ z → z < i - 1 → Q (f (a + 1 + (z - a))) < Q (f a) := fun z z1 z2 => by
      have := c1 (by omega)
      by_cases e : a + 1 + (z - a) = i - 1
      · rw [e]; exact this
      · have := h.r (a + 1 + (z - a)) (i - 1) (by omega) (by omega) (by omega); omega
    have high : ∀ z, i ≤ z → z < b → Q (f a) < Q (f z) := fun z z1 z2 => by
      have := c2 (by omega)
      by_cases e : i = z
      · rw [← e]; exact this
      · have := h.r i z (by omega) (by omega) z2; omega
    by_cases e1 : x < i - 1
    · rw [rot_1 x1 (by omega)]
      by_cases e2 : y < i - 1
      · rw [rot_1 (by omega) (by omega)]; exact h.r _ _ (by omega) (by omega) (by omega)
      · by_cases e3 : y < i
        · rw [rot_2 (by omega) e3, show a + (y - (a + (i - (a + 1)))) = a by omega]; exact low x x1 e1
        · rw [rot_hi (by omega) (by omega) (by omega)]
          exact Int.lt_trans (low x x1 e1) (high y (by omega) y2)
    · by_cases e2 : x < i
      · rw [rot_2 (by omega) e2, show a + (x - (a + (i - (a + 1)))) = a by omega, rot_hi (by omega) (by omega) (by omega)]
        exact high y (by omega) y2
      · rw [rot_hi (by omega) (by omega) (by omega), rot_hi (by omega) (by omega) (by omega)]
        exact h.r _ _ (by omega) xy y2
/-- one place is put in among those ahead of it -/
theorem sym_last {Q : Int → Int} {f : Nat → Int} {a m i : Nat} (h : SymPre Q f a m (m + 1)) (i1 : a ≤ i) (i2 : i ≤ m) (c1 : a < i → Q (f (i - 1)) < Q (f m)) (c2 : i < m → Q (f m) < Q (f i)) : SymPost Q f (rotF f i m (m + 1)) a (m + 1) := by
  have low : ∀ z, a ≤ z → z < i → Q (f z) < Q (f m) := fun z z1 z2 => by
    have := c1 (by omega)
    by_cases e : z = i - 1
    · rw [e]; exact this
    · have := h.l z (i - 1) z1 (by omega) (by omega); omega
  have high : ∀ z, i ≤ z → z < m → Q (f m) < Q (f z) := fun z z1 z2 => by
    have := c2 (by omega)
    by_cases e : i = z
    · rw [← e]; exact this
    · have := h.l i z i1 (by omega) z2; omega
  have v1 : ∀ z, z < i → rotF f i m (m + 1) z = f z := fun z hz => rot_lo hz
  have v2 : rotF f i m (m + 1) i = f m := by rw [rot_1 (Nat.le_refl _) (by omega)]; congr 1; omega
  have v3 : ∀ z, i < z → z < m + 1 → rotF f i m (m + 1) z = f (z - 1) := fun z h1 h2 => by rw [rot_2 (by omega) h2]; congr 1; omega
  refine ⟨fun k hk => ?_, fun k k1 k2 => ?_, fun x y x1 xy y2 => ?_⟩
  · rcases hk with hk | hk
    · exact rot_lo (by omega)
    · exact rot_hi (by omega) (by omega) (by omega)
  · rcases Nat.lt_trichotomy k i with e | e | e
    · exact ⟨k, k1, k2, v1 k e⟩
    · subst e; exact ⟨m, by omega, by omega, v2⟩
    · exact ⟨k - 1, by omega, by omega, v3 k e k2⟩
  · rcases Nat.lt_trichotomy x i with e | e | e
    · rw [v1 x e]
      rcases Nat.lt_trichotomy y i with e' | e' | e'
      · rw [v1 y e']; exact h.l _ _ x1 xy (by omega)
      · subst e'; rw [v2]; exact low x x1 e
      · rw [v3 y e' y2]; exact Int.lt_trans (low x x1 e) (high _ (by omega) (by omega))
    · subst e; rw [v2, v3 y xy y2]; exact high _ (by omega) (by omega)
    · rw [v3 x e (by omega), v3 y (by omega) y2]; exact h.l _ _ (by omega) (by omega) (by omega)
theorem sym_trans {Q : Int → Int} {f g h : Nat → Int} {a i b : Nat} (p : SymPost Q f g a i) (q : SymPost Q g h a b) (hi : i ≤ b) : SymPost Q f h a b := by
  refine ⟨fun k hk => by rw [q.out k hk, p.out k (by omega)], fun k k1 k2 => ?_, q.srt⟩
  obtain ⟨j, j1, j2, je⟩ := q.mem k k1 k2
  rcases Nat.lt_or_ge j i with h1 | h1
  · obtain ⟨z, z1, z2, ze⟩ := p.mem j j1 h1
    exact ⟨z, z1, by omega, je.trans ze⟩
  · exact ⟨j, j1, j2, by rw [je, p.out j (.inr h1)]⟩
theorem rot_step (f : Nat → Int) (j i : Nat) (h : j < i) : rotF f j i (i + 1) = fun k => if k = j then rotF f (j + 1) i (i + 1) (j + 1) else if k = j + 1 then rotF f (j + 1) i (i + 1) j else rotF f (j + 1) i (i + 1) k := by
  funext k
  simp only [rotF]
  repeat' split
  all_goals first | rfl | (congr 1; omega) | omega
theorem rot_at (f : Nat → Int) (j i : Nat) (h : j ≤ i) : rotF f j i (i + 1) j = f i := by
  rw [rot_1 (Nat.le_refl _) (by omega)]; congr 1; omega
theorem rot_up (f : Nat → Int) (a i : Nat) (h : a + 1 ≤ i) : rotF f a (a + 1) (i + 1) = fun k => if k = i then rotF f a (a + 1) i (i - 1) else if k = i - 1 then rotF f a (a + 1) i i else rotF f a (a + 1) i k := by
  funext k
  simp only [rotF]
  repeat' split
  all_goals first | rfl | (congr 1; omega) | omega
/-- a key that tells all numbers below 64 apart -/
def qK (K : Int → Int) (x : Int) : Int := K x * 64 + x
theorem qK_lt {K : Int → Int} {x y : Int} (h0 : 0 ≤ y) (h1 : y < x) (h2 : x < 64) : qK K x < qK K y ↔ K x < K y := by
  unfold qK
  generalize K x = p
  generalize K y = q
  omega
theorem qK_ge {K : Int → Int} {x y : Int} (h0 : 0 ≤ y) (h1 : y < x) (h2 : x < 64) : qK K y < qK K x ↔ ¬ K x < K y := by
  unfold qK
  generalize K x = p
  generalize K y = q
  omega
theorem qK_one {K : Int → Int} {x y : Int} (x0 : 0 ≤ x) (x1 : x < 64) (y0 : 0 ≤ y) (y1 : y < 64) (h : qK K x = qK K y) : x = y := by
  unfold qK at h
  generalize K x = p at *
  generalize K y = q at *
  omega
def mkL (n : Nat) (f : Nat → Int) : List Int := (List.range n).map f
theorem mkL_len (n : Nat) (f : Nat → Int) : (mkL n f).length = n := by simp [mkL]
theorem mkL_at {n : Nat} (f : Nat → Int) {k : Nat} (h : k < n) : (mkL n f)[k]? = some (f k) := by rw [mkL, List.getElem?_map, List.getElem?_range h]; rfl
theorem mkL_get {n : Nat} (f : Nat → Int) {k : Nat} (h : k < n) : (mkL n f).getD k 0 = f k := by rw [List.getD_eq_getElem?_getD, mkL_at f h]; rfl
theorem mkL_set {n : Nat} (f : Nat → Int) {k : Nat} (h : k < n) (x : Int) : (mkL n f).set k x = mkL n (fun j => if j = k then x else f j) := by
  apply List.ext_getElem?
  intro j
  rw [List.getElem?_set, mkL_len]
  by_cases e : k = j
  · subst e; rw [if_pos rfl, if_pos h, mkL_at _ h, if_pos rfl]
  · rw [if_neg e]
    by_cases hj : j < n
    · rw [mkL_at _ hj, mkL_at _ hj, if_neg (fun e' => e e'.symm)]
    · rw [List.getElem?_eq_none (by rw [mkL_len]; omega), List.getElem?_eq_none (by rw [mkL_len]; omega)]
theorem mkL_of (d : List Int) : d = mkL d.length (fun k => d.getD k 0) := by
  apply List.ext_getElem?
  intro j
  by_cases hj : j < d.length
  · rw [mkL_at _ hj, List.getD_eq_getElem?_getD, List.getElem?_eq_getElem hj]; rfl
  · rw [List.getElem?_eq_none (by omega), List.getElem?_eq_none (by rw [mkL_len]; omega)]
end Go.Proofs.Ytkdjeneogclocaa.Plain
