/- The search for the fewest stations: plain facts, and what it holds. -/
import Derived.Test.YtgjjbnjahombdaaLinB
import Derived.Test.YtgjjbnjahombdaaStoreBox
namespace Go.Proofs.Ytgjjbnjahombdaa.Plain
set_option linter.unusedVariables false
set_option linter.unusedSimpArgs false
section
variable {c n K : Nat} {t bf : Nat → Nat}
theorem ldN_mono (P : Nat → Bool) (t : Nat → Nat) (k : Nat) : ∀ m, ldN P t k ≤ ldN P t (k + m)
  | 0 => Nat.le_refl _
  | m + 1 => by rw [← Nat.add_assoc, ldN]; have := ldN_mono P t k m; omega
/-- stations of the first i tasks that keep all -/
def PartL (c : Nat) (t bf : Nat → Nat) (K : Nat) (A : Nat → Nat) (i : Nat) : Prop := (∀ j, j < i → A j < K) ∧ (∀ j, j < i → ∀ k, (bf j).testBit k = true → A k ≤ A j) ∧ ∀ s, ldN (fun j => A j == s) t i ≤ c
theorem part_full {A : Nat → Nat} (h : PartL c t bf K A n) : FeasL c n t bf K A := h
theorem bit_lt {x i k : Nat} (hx : x < 2 ^ i) (hk : x.testBit k = true) : k < i := by
  rcases Nat.lt_or_ge k i with h | h
  · exact h
  · rw [Nat.testBit_lt_two_pow (Nat.lt_of_lt_of_le hx (Nat.pow_le_pow_right (by omega) h))] at hk; cases hk
/-- one more station -/
def upA (A : Nat → Nat) (i s : Nat) : Nat → Nat := fun j => if j = i then s else A j
theorem upA_ld (A : Nat → Nat) (i s s' : Nat) (t : Nat → Nat) : ldN (fun j => upA A i s j == s') t (i + 1) = ldN (fun j => A j == s') t i + if s = s' then t i else 0 := by
  rw [ldN, ldN_same (Q := fun j => A j == s') fun j hj => by unfold upA; rw [if_neg (by omega)]]
  unfold upA
  rw [if_pos rfl]
  by_cases h : s = s'
  · simp [h]
  · simp [h]
theorem part_next (hbl : ∀ j, j < n → bf j < 2 ^ j) {A : Nat → Nat} {i s : Nat} (hi : i < n) (h : PartL c t bf K A i) (hs : s < K) (hf : ∀ k, (bf i).testBit k = true → A k ≤ s) (hl : ldN (fun j => A j == s) t i + t i ≤ c) : PartL c t bf K (upA A i s) (i + 1) := by
  refine ⟨fun j hj => ?_, fun j hj k hk => ?_, fun s' => ?_⟩
  · unfold upA
    by_cases e : j = i
    · rw [if_pos e]; exact hs
    · rw [if_neg e]; exact h.1 j (by omega)
  · have hkj := bit_lt (hbl j (by omega)) hk
    unfold upA
    by_cases e : j = i
    · subst e; rw [if_pos rfl, if_neg (by omega)]; exact hf k hk
    · rw [if_neg e, if_neg (by omega)]; exact h.2.1 j (by omega) k hk
  · rw [upA_ld]
    by_cases e : s = s'
    · subst e; rw [if_pos rfl]; exact hl
    · rw [if_neg e]; exact h.2.2 s'
/-- A can be gone on with -/
def ExtL (c n : Nat) (t bf : Nat → Nat) (K : Nat) (A : Nat → Nat) (i : Nat) : Prop := ∃ A', FeasL c n t bf K A' ∧ ∀ j, j < i → A' j = A j
theorem no_room {A A' : Nat → Nat} {i s : Nat} (hi : i < n) (h : FeasL c n t bf K A') (he : ∀ j, j < i → A' j = A j) (hc : c < ldN (fun j => A j == s) t i + t i) : A' i ≠ s := fun e => by
  have h1 := h.2.2 s
  have h2 := ldN_mono (fun j => A' j == s) t (i + 1) (n - (i + 1))
  rw [show i + 1 + (n - (i + 1)) = n by omega] at h2
  rw [ldN, ldN_same (Q := fun j => A j == s) fun j hj => by rw [he j hj]] at h2
  rw [if_pos (by simp [e])] at h2
  omega
/-- the least station, by the first k of those before -/
def fstF (A : Nat → Nat) (x : Nat) : Nat → Nat
  | 0 => 0
  | k + 1 => if x.testBit k = true then max (fstF A x k) (A k) else fstF A x k
theorem fstF_le {A : Nat → Nat} {x s : Nat} : ∀ {k}, fstF A x k ≤ s ↔ ∀ j, j < k → x.testBit j = true → A j ≤ s
  | 0 => by simp [fstF]
  | k + 1 => by
    rw [fstF]
    by_cases hb : x.testBit k = true
    · rw [if_pos hb]
      constructor
      · intro h j hj hjb
        by_cases e : j = k
        · subst e; omega
        · exact (fstF_le (k := k)).1 (by omega) j (by omega) hjb
      · intro h
        have h1 := (fstF_le (A := A) (x := x) (s := s) (k := k)).2 fun j hj hjb => h j (by omega) hjb
        have h2 := h k (by omega) hb
        omega
    · rw [if_neg hb]
      constructor
      · intro h j hj hjb
        by_cases e : j = k
        · subst e; exact absurd hjb hb
        · exact (fstF_le (k := k)).1 h j (by omega) hjb
      · intro h
        exact (fstF_le (k := k)).2 fun j hj hjb => h j (by omega) hjb
/-- what room is left -/
def rmF (c : Nat) (t A : Nat → Nat) (i s : Nat) : Int := (c : Int) - (ldN (fun j => A j == s) t i : Int)
theorem rm_sum {A : Nat → Nat} {i : Nat} (h : ∀ j, j < i → A j < K) : sumZ (rmF c t A i) K = (K : Int) * (c : Int) - (sumN t i : Int) := by
  have key : ∀ k, sumZ (rmF c t A i) k = (k : Int) * (c : Int) - (sumN (fun s => ldN (fun j => A j == s) t i) k : Int) := fun k => by
    induction k with
    | zero => simp [sumZ, sumN]
    | succ k ih =>
      rw [sumZ, sumN, ih, rmF]
      push_cast
      rw [Int.add_mul, Int.one_mul]
      omega
  rw [key, sum_loads h]
end
end Go.Proofs.Ytgjjbnjahombdaa.Plain
namespace Go.Proofs.Ytgjjbnjahombdaa
open Go.RowKit Plain
set_option linter.unusedVariables false
set_option linter.unusedSimpArgs false
attribute [local go_sem ↓] Go.wp_at_zero Go.wp_at_succ
/-- the numbers of the blocks of a search -/
structure LK where
  B : Nat
  b : Nat
  o : Nat
  cp : Nat
  b2 : Nat
  o2 : Nat
  cp2 : Nat
  xT : Nat
  xB : Nat
  xC : Nat
  gO : Nat
  xO : Nat
  gR : Nat
  cR : Nat
  xR : Nat
  xL : Nat
  xP : Nat
  B1 : Nat
def LK.ord (k : LK) : Prop := k.B ≤ k.xT ∧ k.xT < k.xB ∧ k.xB < k.xC ∧ k.xC < k.gO ∧ k.gO < k.xO ∧ k.xO < k.gR ∧ k.gR < k.xR ∧ k.xR < k.xL ∧ k.xL < k.xP ∧ k.xP < k.B1
def LK.put (k : LK) : Value := .func (.func 23) #[] #[.pointer (some ⟨k.xT, 0, none⟩), .pointer (some ⟨k.xB, 0, none⟩), .pointer (some ⟨k.xO, 0, none⟩), .pointer (some ⟨k.xC, 0, none⟩), .pointer (some ⟨k.xR, 0, none⟩), .pointer (some ⟨k.xL, 0, none⟩), .pointer (some ⟨k.xP, 0, none⟩)]
structure LFix (k : LK) (w : World) (n K : Nat) : Prop where
  cT : w.cell? ⟨k.xT, 0, none⟩ = some (.slice (some ⟨k.b, k.o, none⟩) n k.cp)
  cB : w.cell? ⟨k.xB, 0, none⟩ = some (.slice (some ⟨k.b2, k.o2, none⟩) n k.cp2)
  cC : w.cell? ⟨k.xC, 0, none⟩ = some (.int .i64 K)
  cO : w.cell? ⟨k.xO, 0, none⟩ = some (.slice (some ⟨k.gO, 0, none⟩) n n)
  cR : w.cell? ⟨k.xR, 0, none⟩ = some (.slice (some ⟨k.gR, 0, none⟩) K k.cR)
  cP : w.cell? ⟨k.xP, 0, none⟩ = some k.put
theorem LFix.below {k : LK} {w w' : World} {n K : Nat} (h : LFix k w n K) (hb : Below w.heap.size w w') : LFix k w' n K :=
  ⟨below_at hb h.cT, below_at hb h.cB, below_at hb h.cC, below_at hb h.cO, below_at hb h.cR, below_at hb h.cP⟩
theorem LFix.grown {k : LK} {w w' : World} {n K g : Nat} (h : LFix k w n K) (hg : w.grownBy w' (some g)) (ho : k.ord) (hd : g = k.gO ∨ g = k.gR ∨ g = k.xL) : LFix k w' n K := by
  obtain ⟨o1, o2, o3, o4, o5, o6, o7, o8, o9, o10⟩ := ho
  exact ⟨hg.cell h.cT (by simp; omega), hg.cell h.cB (by simp; omega), hg.cell h.cC (by simp; omega), hg.cell h.cO (by simp; omega), hg.cell h.cR (by simp; omega), hg.cell h.cP (by simp; omega)⟩
structure LSt (k : LK) (w : World) (n K : Nat) (o r : Nat → Int) (l : Int) : Prop where
  fx : LFix k w n K
  hL : w.heap[k.xL]? = some (.cells #[.int .i64 l] 2 (0, 0))
  rO : OwnL w k.B k.gO n n o
  rR : OwnL w k.B k.gR K k.cR r
  sz : k.B1 ≤ w.heap.size
theorem LSt.below {k : LK} {w w' : World} {n K : Nat} {o r : Nat → Int} {l : Int} (h : LSt k w n K o r l) (hb : Below w.heap.size w w') (ho : k.ord) : LSt k w' n K o r l := by
  have sz := h.sz
  obtain ⟨o1, o2, o3, o4, o5, o6, o7, o8, o9, o10⟩ := ho
  exact ⟨h.fx.below hb, (hb.block _ (by omega)).trans h.hL, own_below h.rO hb, own_below h.rR hb, Nat.le_trans sz hb.size⟩
theorem LSt.outW {k : LK} {w w' : World} {n K : Nat} {o o' r : Nat → Int} {l : Int} (h : LSt k w n K o r l) (hg : w.grownBy w' (some k.gO)) (ho : k.ord) (hr : OwnL w' k.B k.gO n n o') : LSt k w' n K o' r l := by
  have f := h.fx.grown hg ho (.inl rfl)
  have sz := h.sz
  have s2 := hg.size
  obtain ⟨o1, o2, o3, o4, o5, o6, o7, o8, o9, o10⟩ := ho
  refine ⟨f, (hg.block _ (by omega) (by simp; omega)).trans h.hL, hr, h.rR.kept hg (.inr ?_), by omega⟩
  simp only [Value.ownBlock, Option.map_some, ne_eq, Option.some.injEq]; omega
theorem LSt.roomW {k : LK} {w w' : World} {n K : Nat} {o r r' : Nat → Int} {l : Int} (h : LSt k w n K o r l) (hg : w.grownBy w' (some k.gR)) (ho : k.ord) (hr : OwnL w' k.B k.gR K k.cR r') : LSt k w' n K o r' l := by
  have f := h.fx.grown hg ho (.inr (.inl rfl))
  have sz := h.sz
  have s2 := hg.size
  obtain ⟨o1, o2, o3, o4, o5, o6, o7, o8, o9, o10⟩ := ho
  refine ⟨f, (hg.block _ (by omega) (by simp; omega)).trans h.hL, h.rO.kept hg (.inr ?_), hr, by omega⟩
  simp only [Value.ownBlock, Option.map_some, ne_eq, Option.some.injEq]; omega
theorem LSt.leftW {k : LK} {w w' : World} {n K : Nat} {o r : Nat → Int} {l l' : Int} (h : LSt k w n K o r l) (hg : w.grownBy w' (some k.xL)) (ho : k.ord) (hx : w'.heap[k.xL]? = some (.cells #[.int .i64 l'] 2 (0, 0))) : LSt k w' n K o r l' := by
  have f := h.fx.grown hg ho (.inr (.inr rfl))
  have sz := h.sz
  have s2 := hg.size
  obtain ⟨o1, o2, o3, o4, o5, o6, o7, o8, o9, o10⟩ := ho
  refine ⟨f, hx, h.rO.kept hg (.inr ?_), h.rR.kept hg (.inr ?_), by omega⟩
  all_goals simp only [Value.ownBlock, Option.map_some, ne_eq, Option.some.injEq]; omega
theorem LSt.same {k : LK} {w : World} {n K : Nat} {o o' r r' : Nat → Int} {l l' : Int} (h : LSt k w n K o r l) (h1 : ∀ i, i < n → o i = o' i) (h2 : ∀ s, s < K → r s = r' s) (h3 : l = l') : LSt k w n K o' r' l' := by
  subst h3
  exact ⟨h.fx, h.hL, h.rO.same h1, h.rR.same h2, h.sz⟩
/-- what the search tells of the first i tasks -/
def PutOut (k : LK) (w0 : World) (c n : Nat) (t bf : Nat → Nat) (K : Nat) (A : Nat → Nat) (i : Nat) (w : World) (e : Ending) (w' : World) : Prop :=
  ∃ (bb : Bool) (o r : Nat → Int) (l : Int), e = .returned (.bool bb) ∧ LSt k w' n K o r l ∧ Below k.B w0 w' ∧
    (if bb = true then ∃ A', FeasL c n t bf K A' ∧ ∀ j, j < n → o j = (A' j : Int) else ¬ ExtL c n t bf K A i ∧ (∀ j, j < i → o j = (A j : Int)) ∧ (∀ s, s < K → r s = rmF c t A i s) ∧ l = (sumN t n : Int) - (sumN t i : Int))
end Go.Proofs.Ytgjjbnjahombdaa
