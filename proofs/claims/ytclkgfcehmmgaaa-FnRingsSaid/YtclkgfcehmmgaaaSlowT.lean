/- A ring of a size, found by a search, in plain lists: the search as one function; it finds a ring where there is one. No program stands here. -/
import Derived.Test.YtclkgfcehmmgaaaRingW
namespace Go.Proofs.Ytclkgfcehmmgaaa.Plain

/-- the first answer along a list -/
def firstF {α β : Type} (f : Nat → α → Option β) : Nat → List α → Option β
  | _, [] => none
  | k, a :: l => match f k a with
    | some x => some x
    | none => firstF f (k + 1) l
theorem firstF_none {α β : Type} {f : Nat → α → Option β} {l : List α} {k : Nat} (h : firstF f k l = none) : ∀ j a, l[j]? = some a → f (k + j) a = none := by
  induction l generalizing k with
  | nil => intro j a hj; simp at hj
  | cons b l ih =>
    simp only [firstF] at h
    split at h
    · cases h
    · rename_i e
      intro j a hj
      cases j with
      | zero => simp at hj; subst hj; exact e
      | succ j =>
        have := ih h j a (by simpa using hj)
        rw [show k + (j + 1) = k + 1 + j by omega]; exact this
theorem firstF_all {α β : Type} {f : Nat → α → Option β} {l : List α} {k : Nat} (h : ∀ j a, l[j]? = some a → f (k + j) a = none) : firstF f k l = none := by
  induction l generalizing k with
  | nil => rfl
  | cons b l ih =>
    have h0 := h 0 b rfl
    simp only [firstF]
    rw [Nat.add_zero] at h0
    rw [h0]
    exact ih (fun j a hj => by have := h (j + 1) a (by simpa using hj); rw [show k + 1 + j = k + (j + 1) by omega]; exact this)
theorem firstF_at {α β : Type} {f : Nat → α → Option β} {l : List α} {k m : Nat} {a : α} {x : β} (h : ∀ j a, j < m → l[j]? = some a → f (k + j) a = none) (ha : l[m]? = some a) (hx : f (k + m) a = some x) : firstF f k l = some x := by
  induction l generalizing k m with
  | nil => simp at ha
  | cons b l ih =>
    simp only [firstF]
    cases m with
    | zero =>
      simp at ha
      subst ha
      rw [Nat.add_zero] at hx
      rw [hx]
    | succ m =>
      have h0 := h 0 b (by omega) rfl
      rw [Nat.add_zero] at h0
      rw [h0]
      exact ih (m := m) (fun j a hj ha => by have := h (j + 1) a (by omega) (by simpa using ha); rw [show k + 1 + j = k + (j + 1) by omega]; exact this) (by simpa using ha) (by rw [show k + 1 + m = k + (m + 1) by omega]; exact hx)

/-- the rest of a ring: so many arcs, from a node on, back to the start -/
def goR (l : List Q4) (z : Q4 → Int) (st : Int) : Nat → Int → Nat → Int → Option (List Nat)
  | 0, _, _, _ => none
  | r + 1, at', S, wt => firstF (fun i a =>
      if a.a ≠ at' ∨ a.b < st then none
      else if r = 0 then (if a.b = st ∧ wt + z a = 0 then some [i] else none)
      else if a.b = st ∨ S.testBit a.b.toNat = true then none
      else (goR l z st r a.b (S ||| 2 ^ a.b.toNat) (wt + z a)).map (i :: ·)) 0 l
/-- one arc of the rest -/
def goF (l : List Q4) (z : Q4 → Int) (st : Int) (r : Nat) (at' : Int) (S : Nat) (wt : Int) (i : Nat) (a : Q4) : Option (List Nat) :=
  if a.a ≠ at' ∨ a.b < st then none
  else if r = 0 then (if a.b = st ∧ wt + z a = 0 then some [i] else none)
  else if a.b = st ∨ S.testBit a.b.toNat = true then none
  else (goR l z st r a.b (S ||| 2 ^ a.b.toNat) (wt + z a)).map (i :: ·)
theorem goR_succ (l : List Q4) (z : Q4 → Int) (st : Int) (r : Nat) (at' : Int) (S : Nat) (wt : Int) : goR l z st (r + 1) at' S wt = firstF (goF l z st r at' S wt) 0 l := rfl
/-- a ring of a size that begins with an arc -/
def topF (l : List Q4) (z : Q4 → Int) (s : Nat) (i : Nat) (a : Q4) : Option (List Nat) :=
  if a.b < a.a then none
  else if s = 1 then (if a.b = a.a ∧ z a = 0 then some [i] else none)
  else if a.b = a.a then none
  else (goR l z a.a (s - 1) a.b (2 ^ a.a.toNat ||| 2 ^ a.b.toNat) (z a)).map (i :: ·)
def ringF (l : List Q4) (z : Q4 → Int) (s : Nat) : Option (List Nat) := firstF (topF l z s) 0 l

/-- a way back to the start -/
def WayR (l : List Q4) (z : Q4 → Int) (st : Int) : List Nat → Int → Nat → Int → Prop
  | [], _, _, _ => False
  | i :: p, at', S, wt => ∃ a, l[i]? = some a ∧ a.a = at' ∧ st ≤ a.b ∧
      ((p = [] ∧ a.b = st ∧ wt + z a = 0) ∨ (p ≠ [] ∧ a.b ≠ st ∧ S.testBit a.b.toNat = false ∧ WayR l z st p a.b (S ||| 2 ^ a.b.toNat) (wt + z a)))
theorem way_found {l : List Q4} {z : Q4 → Int} {st : Int} (p : List Nat) : ∀ at' S wt, WayR l z st p at' S wt → goR l z st p.length at' S wt ≠ none := by
  induction p with
  | nil => intro _ _ _ h; exact h.elim
  | cons i p ih =>
    intro at' S wt h hn
    obtain ⟨a, h1, h2, h3, h4⟩ := h
    rw [List.length_cons, goR_succ] at hn
    have := firstF_none hn i a h1
    rw [Nat.zero_add, goF, if_neg (by omega)] at this
    rcases h4 with ⟨rfl, h5, h6⟩ | ⟨h4, h5, h6, h7⟩
    · rw [List.length_nil, if_pos rfl, if_pos ⟨h5, h6⟩] at this
      cases this
    · rw [if_neg (fun h => h4 (List.length_eq_zero_iff.1 h)), if_neg (by rw [h6]; simp [h5])] at this
      have h8 := ih _ _ _ h7
      cases e : goR l z st p.length a.b (S ||| 2 ^ a.b.toNat) (wt + z a) with
      | none => exact h8 e
      | some x => rw [e] at this; cases this
theorem sumQ_tight {f : Q4 → Int} {l : List Q4} (h : ∀ a ∈ l, f a ≤ 0) (hs : sumQ f l = 0) : ∀ a ∈ l, f a = 0 := by
  induction l with
  | nil => intro a ha; cases ha
  | cons b l ih =>
    have h1 := h b (by simp)
    have h2 := sumQ_le (f := f) (g := fun _ => 0) (l := l) (fun a ha => h a (by simp [ha]))
    rw [sumQ_const] at h2
    simp only [sumQ] at hs
    intro a ha
    rcases List.mem_cons.1 ha with rfl | ha
    · omega
    · exact ih (fun a ha => h a (by simp [ha])) (by omega) a ha
theorem sumQ_ge {f : Q4 → Int} {l : List Q4} (h : ∀ a ∈ l, 0 ≤ f a) {b : Q4} (hb : b ∈ l) : f b ≤ sumQ f l := by
  induction l with
  | nil => cases hb
  | cons c l ih =>
    have h2 := sumQ_le (f := fun _ => 0) (g := f) (l := l) (fun a ha => h a (by simp [ha]))
    rw [sumQ_const] at h2
    simp only [sumQ]
    rcases List.mem_cons.1 hb with rfl | hb
    · omega
    · have := ih (fun a ha => h a (by simp [ha])) hb
      have := h c (by simp)
      omega
/-- from each node that a ring comes to an arc of the ring goes on -/
theorem ring_next {l rz : List Q4} (hr : RingQ l rz) {b : Q4} (hb : b ∈ rz) : ∃ a ∈ rz, a.a.toNat = b.b.toNat := by
  by_cases hx : ∃ a ∈ rz, a.a.toNat = b.b.toNat
  · exact hx
  · exfalso
    have hn : ∀ a ∈ rz, a.a.toNat ≠ b.b.toNat := fun a ha e => hx ⟨a, ha, e⟩
    have h0 := hr.ring (fun v => if v = b.b.toNat then 1 else 0)
    have h1 := sumQ_ge (f := fun a => (if a.b.toNat = b.b.toNat then (1 : Int) else 0) - (if a.a.toNat = b.b.toNat then 1 else 0)) (l := rz) (fun a ha => by
      rw [if_neg (hn a ha)]
      split <;> omega) hb
    rw [h0] at h1
    simp only [if_neg (hn b hb), if_true] at h1
    omega
/-- the least of some numbers -/
theorem least_at (g : Nat → Nat) (d : Nat) (hd : 1 ≤ d) : ∃ e, e < d ∧ ∀ k, k < d → g e ≤ g k := by
  induction d with
  | zero => omega
  | succ d ih =>
    rcases Nat.eq_zero_or_pos d with rfl | h0
    · exact ⟨0, by omega, fun k hk => by rw [show k = 0 by omega]; exact Nat.le_refl _⟩
    · obtain ⟨e, he, hm⟩ := ih h0
      by_cases h : g e ≤ g d
      · refine ⟨e, by omega, fun k hk => ?_⟩
        rcases Nat.lt_or_ge k d with h1 | h1
        · exact hm k h1
        · rw [show k = d by omega]; exact h
      · refine ⟨d, by omega, fun k hk => ?_⟩
        rcases Nat.lt_or_ge k d with h1 | h1
        · have := hm k h1; omega
        · rw [show k = d by omega]; exact Nat.le_refl _
theorem least_per {p : Nat → Prop} (n : Nat) (h : ∃ d, 1 ≤ d ∧ d ≤ n ∧ p d) : ∃ d, 1 ≤ d ∧ d ≤ n ∧ p d ∧ ∀ e, 1 ≤ e → e < d → ¬ p e := by
  induction n with
  | zero => obtain ⟨d, h1, h2, _⟩ := h; omega
  | succ n ih =>
    by_cases hx : ∃ d, 1 ≤ d ∧ d ≤ n ∧ p d
    · obtain ⟨d, h1, h2, h3, h4⟩ := ih hx
      exact ⟨d, h1, by omega, h3, h4⟩
    · obtain ⟨d, h1, h2, h3⟩ := h
      have : d = n + 1 := by
        rcases Nat.lt_or_ge n d with h | h
        · omega
        · exact absurd ⟨d, h1, h, h3⟩ hx
      subst this
      exact ⟨n + 1, h1, h2, h3, fun e h1 h2 h3 => hx ⟨e, h1, by omega, h3⟩⟩
/-- a function of nodes comes to a simple ring whose first node is the least -/
theorem simple_ring {n : Nat} {f : Nat → Nat} {v : Nat} {ok : Nat → Prop} (hn : ∀ k, itU f v k < n) (hok : ∀ k, ok (itU f v k)) :
    ∃ (W : Nat → Nat) (d : Nat), 1 ≤ d ∧ d ≤ n ∧ (∀ k, W (k + 1) = f (W k)) ∧ W d = W 0 ∧ (∀ k, ok (W k)) ∧ (∀ k, W k < n) ∧ (∀ k, k < d → W 0 ≤ W k) ∧ ∀ i j, i < j → j < d → W i ≠ W j := by
  obtain ⟨_, hx⟩ := ring_back (ok := ok) (fun k _ => hn k) (fun k _ => hok k)
  obtain ⟨d, d1, d2, dp, dl⟩ := least_per n hx
  have per : ∀ s, itU f v (n + d + s) = itU f v (n + s) := fun s => itU_per dp s
  obtain ⟨e, he, hm⟩ := least_at (fun k => itU f v (n + k)) d d1
  have red : ∀ k, itU f v (n + e + k) = itU f v (n + (e + k) % d) := by
    intro k
    have : ∀ q r, itU f v (n + (r + q * d)) = itU f v (n + r) := by
      intro q
      induction q with
      | zero => intro r; rw [Nat.zero_mul, Nat.add_zero]
      | succ q ih =>
        intro r
        rw [Nat.succ_mul, show n + (r + (q * d + d)) = n + d + (r + q * d) by omega, per, ih]
    have h := this ((e + k) / d) ((e + k) % d)
    rw [Nat.mul_comm, Nat.mod_add_div] at h
    rw [Nat.add_assoc]; exact h
  refine ⟨fun k => itU f v (n + e + k), d, d1, d2, fun k => ?_, ?_, fun k => hok _, fun k => hn _, fun k hk => ?_, fun i j hij hj heq => ?_⟩
  · show itU f v (n + e + (k + 1)) = f (itU f v (n + e + k))
    rw [← Nat.add_assoc, itU]
  · show itU f v (n + e + d) = itU f v (n + e + 0)
    have := per e
    rw [show n + e + d = n + d + e by omega, this, Nat.add_zero]
  · show itU f v (n + e + 0) ≤ itU f v (n + e + k)
    rw [red k, Nat.add_zero]
    exact hm _ (Nat.mod_lt _ (by omega))
  · have heq : itU f v (n + e + i) = itU f v (n + e + j) := heq
    -- from i on the way is the same as from j on: back at n behind fewer steps
    have hs : ∀ s, itU f v (n + e + i + s) = itU f v (n + e + j + s) := by
      intro s
      induction s with
      | zero => exact heq
      | succ s ih => rw [← Nat.add_assoc, ← Nat.add_assoc, itU, itU, ih]
    have h1 := hs (2 * d - (e + i))
    rw [show n + e + i + (2 * d - (e + i)) = n + d + d by omega, show n + e + j + (2 * d - (e + i)) = n + d + (d + (j - i)) by omega] at h1
    rw [per, dp, per, ← Nat.add_assoc, per] at h1
    exact dl (j - i) (by omega) (by omega) h1.symm
theorem or_bit (S v u : Nat) : (S ||| 2 ^ v).testBit u = (S.testBit u || decide (v = u)) := by
  rw [Nat.testBit_or, Nat.testBit_two_pow]
/-- a ring without weight is found -/
theorem ring_found {l rz : List Q4} {z : Q4 → Int} {t : Nat → Int} {g : Int} {n : Nat} (hr : RingQ l rz) (hg : 1 ≤ g) (hv : ∀ a ∈ l, (0 ≤ a.a ∧ a.a.toNat < n) ∧ (0 ≤ a.b ∧ a.b.toNat < n)) (ht : ∀ a ∈ rz, g * z a = t a.b.toNat - t a.a.toNat) : ∃ s, 1 ≤ s ∧ s ≤ n ∧ ringF l z s ≠ none := by
  have ha : ∀ v : Nat, ∃ i : Nat, (∃ b ∈ rz, b.b.toNat = v) → ∃ a : Q4, l[i]? = some a ∧ a ∈ rz ∧ a.a.toNat = v := by
    intro v
    by_cases hx : ∃ b ∈ rz, b.b.toNat = v
    · obtain ⟨b, hb, rfl⟩ := hx
      obtain ⟨a, ha, e⟩ := ring_next hr hb
      obtain ⟨i, hi⟩ := List.getElem?_of_mem (hr.mem a ha)
      exact ⟨i, fun _ => ⟨a, hi, ha, e⟩⟩
    · exact ⟨0, fun h => absurd h hx⟩
  obtain ⟨nx, hnx⟩ : ∃ nx : Nat → Nat, ∀ v : Nat, (∃ b ∈ rz, b.b.toNat = v) → ∃ a : Q4, l[nx v]? = some a ∧ a ∈ rz ∧ a.a.toNat = v := ⟨fun v => (ha v).choose, fun v => (ha v).choose_spec⟩
  obtain ⟨b0, hb0⟩ : ∃ b, b ∈ rz := by
    cases e : rz with
    | nil => have := hr.one; rw [e] at this; simp at this
    | cons b rz => exact ⟨b, by simp⟩
  -- the node that a node's arc comes to
  let f : Nat → Nat := fun v => match l[nx v]? with
    | some a => a.b.toNat
    | none => 0
  have hok : ∀ k, ∃ b ∈ rz, b.b.toNat = itU f b0.b.toNat k := by
    intro k
    induction k with
    | zero => exact ⟨b0, hb0, rfl⟩
    | succ k ih =>
      obtain ⟨a, h1, h2, _⟩ := hnx _ ih
      refine ⟨a, h2, ?_⟩
      show a.b.toNat = (match l[nx (itU f b0.b.toNat k)]? with | some a => a.b.toNat | none => 0)
      rw [h1]
  obtain ⟨W, d, d1, d2, hstep, hper, hW, hWn, hleast, hdist⟩ := simple_ring (n := n) (f := f) (v := b0.b.toNat) (ok := fun v => ∃ b ∈ rz, b.b.toNat = v) (fun k => by
    obtain ⟨b, hb, e⟩ := hok k
    rw [← e]
    exact (hv b (hr.mem b hb)).2.2) hok
  have hA : ∀ k, ∃ a, l[nx (W k)]? = some a ∧ a.a = (W k : Int) ∧ a.b = (W (k + 1) : Int) ∧ g * z a = t (W (k + 1)) - t (W k) := by
    intro k
    obtain ⟨a, h1, h2, h3⟩ := hnx _ (hW k)
    have hb := hv a (hr.mem a h2)
    have e : W (k + 1) = a.b.toNat := by
      rw [hstep]
      show (match l[nx (W k)]? with | some a => a.b.toNat | none => 0) = a.b.toNat
      rw [h1]
    refine ⟨a, h1, by omega, by omega, ?_⟩
    rw [ht a h2, ← e, h3]
  -- the nodes behind the first k + 1
  have key : ∀ m k S wt, k + m = d → 1 ≤ k → 1 ≤ m → (∀ v, S.testBit v = true ↔ ∃ j, j ≤ k ∧ W j = v) → g * wt = t (W k) - t (W 0) → WayR l z (W 0 : Int) ((List.range m).map fun j => nx (W (k + j))) (W k : Int) S wt := by
    intro m
    induction m with
    | zero => intro _ _ _ _ _ h; omega
    | succ m ih =>
      intro k S wt hkm hk hm hS hw
      rw [List.range_succ_eq_map, List.map_cons, List.map_map]
      obtain ⟨a, h1, h2, h3, h4⟩ := hA k
      refine ⟨a, h1, h2, ?_, ?_⟩
      · rw [h3]
        rcases Nat.lt_or_ge (k + 1) d with h | h
        · have := hleast (k + 1) h; omega
        · rw [show k + 1 = d by omega, hper]; exact Int.le_refl _
      · rcases Nat.eq_zero_or_pos m with rfl | h0
        · refine .inl ⟨rfl, ?_, ?_⟩
          · rw [h3, show k + 1 = d by omega, hper]
          · rw [show k + 1 = d by omega, hper] at h4
            have : g * (wt + z a) = 0 := by rw [Int.mul_add]; omega
            rcases Int.mul_eq_zero.1 this with h | h
            · omega
            · exact h
        · have hne : W 0 ≠ W (k + 1) := hdist 0 (k + 1) (by omega) (by omega)
          refine .inr ⟨?_, by rw [h3]; omega, ?_, ?_⟩
          · intro e
            have := congrArg List.length e
            simp at this
            omega
          · rw [h3, Int.toNat_natCast, Bool.eq_false_iff]
            intro hb
            obtain ⟨j, hj, e⟩ := (hS _).1 hb
            exact hdist j (k + 1) (by omega) (by omega) e
          · rw [h3, Int.toNat_natCast]
            have := ih (k + 1) (S ||| 2 ^ W (k + 1)) (wt + z a) (by omega) (by omega) h0 (fun v => ?_) (by rw [Int.mul_add]; omega)
            · have e : (fun j => nx (W (k + j))) ∘ Nat.succ = fun j => nx (W (k + 1 + j)) := by
                funext j
                show nx (W (k + (j + 1))) = nx (W (k + 1 + j))
                rw [show k + (j + 1) = k + 1 + j by omega]
              rw [e]
              exact this
            · rw [or_bit, Bool.or_eq_true, decide_eq_true_eq, hS]
              constructor
              · rintro (⟨j, hj, e⟩ | e)
                · exact ⟨j, by omega, e⟩
                · exact ⟨k + 1, Nat.le_refl _, e⟩
              · rintro ⟨j, hj, e⟩
                rcases Nat.lt_or_ge k j with h | h
                · right; rw [show k + 1 = j by omega]; exact e
                · exact .inl ⟨j, h, e⟩
  refine ⟨d, d1, d2, fun hn => ?_⟩
  obtain ⟨a, h1, h2, h3, h4⟩ := hA 0
  rw [Nat.zero_add] at h3 h4
  have hf := firstF_none hn (nx (W 0)) a h1
  rw [Nat.zero_add, topF] at hf
  rcases Nat.lt_or_ge 1 d with hd | hd
  · have hne : W 0 ≠ W 1 := hdist 0 1 (by omega) hd
    have hle := hleast 1 hd
    rw [if_neg (by omega), if_neg (by omega), if_neg (by omega), h2, h3, Int.toNat_natCast, Int.toNat_natCast] at hf
    have hw := key (d - 1) 1 (2 ^ W 0 ||| 2 ^ W 1) (z a) (by omega) (Nat.le_refl _) (by omega) (fun v => by
      rw [or_bit, Nat.testBit_two_pow, Bool.or_eq_true, decide_eq_true_eq, decide_eq_true_eq]
      constructor
      · rintro (e | e)
        · exact ⟨0, by omega, e⟩
        · exact ⟨1, by omega, e⟩
      · rintro ⟨j, hj, e⟩
        rcases Nat.eq_zero_or_pos j with rfl | h
        · exact .inl e
        · right; rw [show (1 : Nat) = j by omega]; exact e) (by simpa using h4)
    have := way_found _ _ _ _ hw
    rw [List.length_map, List.length_range] at this
    cases e : goR l z (W 0 : Int) (d - 1) (W 1 : Int) (2 ^ W 0 ||| 2 ^ W 1) (z a) with
    | none => exact this e
    | some x => rw [e] at hf; cases hf
  · have e1 : d = 1 := by omega
    subst e1
    have e2 : W 1 = W 0 := hper
    rw [e2] at h3 h4
    rw [if_neg (by omega), if_pos rfl] at hf
    have : z a = 0 := by
      have : g * z a = 0 := by omega
      rcases Int.mul_eq_zero.1 this with h | h
      · omega
      · exact h
    rw [if_pos ⟨by omega, this⟩] at hf
    cases hf
end Go.Proofs.Ytclkgfcehmmgaaa.Plain
