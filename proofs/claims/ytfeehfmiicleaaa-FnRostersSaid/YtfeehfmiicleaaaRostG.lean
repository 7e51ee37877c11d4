/- Calls of the program where nobody is away, or some are: what the law asks of them. -/
import Derived.Test.YtfeehfmiicleaaaProg
import Derived.Test.YtfeehfmiicleaaaOncI
import Derived.Test.YtfeehfmiicleaaaGapI
import Derived.Test.YtfeehfmiicleaaaRostT
namespace Go.Proofs.Ytfeehfmiicleaaa
open Go.RowKit Plain
set_option linter.unusedVariables false
set_option linter.unusedSimpArgs false
theorem tally_calls {m : Nat} {sets : List Int} (d : Nat) : ∀ {s : CallSt}, callsTo m sets d = some s → GapI.tally m s.out = s.C := by
  induction d with
  | zero =>
    intro s h
    simp only [callsTo, Option.some.injEq] at h
    subst h
    rfl
  | succ d ih =>
    intro s h
    simp only [callsTo] at h
    cases e : callsTo m sets d with
    | none => rw [e] at h; cases h
    | some s0 =>
      rw [e] at h
      simp only at h
      split at h
      · cases h
      · cases h
        have := ih e
        rw [GapI.tally, List.foldl_append] at *
        show GapI.bump _ _ = _
        rw [this]
        rfl
theorem gap_even {m : Nat} {s : CallSt} (hm : 1 ≤ m) (hl : s.C.length = m) (h : Even m s) : 0 ≤ maxTo s.C m - minTo s.C m ∧ maxTo s.C m - minTo s.C m ≤ 1 := by
  obtain ⟨c, hr, _⟩ := h
  have h1 := maxTo_bd (xs := s.C) (lo := c) (hi := c + 1) (fun i hi => hr i (by omega)) (by omega) m (by omega)
  have h2 := minTo_bd (xs := s.C) (lo := c) (hi := c + 1) (fun i hi => hr i (by omega)) (by omega) m (by omega)
  have h3 : minTo s.C m ≤ s.C.getD 0 0 ∧ s.C.getD 0 0 ≤ maxTo s.C m := by
    have : ∀ k, minTo s.C k ≤ s.C.getD 0 0 ∧ s.C.getD 0 0 ≤ maxTo s.C k := by
      intro k
      induction k with
      | zero => exact ⟨Int.le_refl _, Int.le_refl _⟩
      | succ k ih => simp only [minTo, maxTo]; omega
    exact this m
  omega
/-- nobody is away -/
def EvenOut (m d : Nat) (w : World) (r : Ending) (w' : World) : Prop :=
  ∃ (out : List Int) (u : Value), r = .returned (.tuple #[u, .bool true]) ∧ out.length = d ∧ (∀ x ∈ out, 0 ≤ x ∧ x < m) ∧ (2 ≤ m → ∀ k, 1 ≤ k → k < d → out.getD k 0 ≠ out.getD (k - 1) 0) ∧
    (∃ gap : Int, GapI.M out m = (gap, true) ∧ gap ≤ 1) ∧ w'.ownsRow w.heap.size 2 1 u d (out.map vi) ∧ Below w.heap.size w w'
theorem sets_bd {m : Nat} {sets : List Int} (h : ∀ x ∈ sets, 0 ≤ x ∧ x < 2 ^ m) (k : Nat) : 0 ≤ sets.getD k 0 ∧ sets.getD k 0 < (2 : Int) ^ m := by
  rw [List.getD_eq_getElem?_getD]
  rcases Nat.lt_or_ge k sets.length with hk | hk
  · rw [List.getElem?_eq_getElem hk]; exact h _ (List.getElem_mem hk)
  · rw [List.getElem?_eq_none hk]
    refine ⟨Int.le_refl 0, ?_⟩
    have : 0 < 2 ^ m := Nat.two_pow_pos m
    have e : ((2 ^ m : Nat) : Int) = (2 : Int) ^ m := by push_cast; rfl
    show (0 : Int) < 2 ^ m
    omega
theorem okB_of {m d : Nat} {sets : List Int} (m1 : 1 ≤ m) (m2 : m ≤ 12) (d1 : 1 ≤ d) (d2 : d ≤ 128) (hl : sets.length = d) (h : ∀ x ∈ sets, 0 ≤ x ∧ x < 2 ^ m) : OncI.okB m d sets = true := by
  simp only [OncI.okB, manyIn, Bool.and_eq_true, decide_eq_true_eq, List.all_eq_true]
  refine ⟨inR_iff.2 ⟨by omega, by omega⟩, inR_iff.2 ⟨by omega, by omega⟩, by omega, by omega, fun x hx => ?_⟩
  have := h x hx
  rw [Int.toNat_natCast]
  exact inR_iff.2 ⟨by omega, by omega⟩
theorem pow_4096 {m : Nat} (h : m ≤ 12) : (2 : Int) ^ m ≤ 4096 := by
  have h1 : 2 ^ m ≤ 2 ^ 12 := Nat.pow_le_pow_right (by omega) h
  have e : ((2 ^ m : Nat) : Int) = (2 : Int) ^ m := by push_cast; rfl
  omega
theorem even_any (m d : Nat) (m1 : 1 ≤ m) (m2 : m ≤ 12) (d1 : 1 ≤ d) (d2 : d ≤ 128) (v : Value) (w : World) (s2 : Sl w 1 v d ((List.replicate d (0 : Int)).map vi)) :
    Calls Try.prog 8 #[.int .i64 m, .int .i64 d, v] w (EvenOut m d w) := by
  have hl : (List.replicate d (0 : Int)).length = d := List.length_replicate
  have hz : ∀ x ∈ List.replicate d (0 : Int), 0 ≤ x ∧ x < 2 ^ m := fun x hx => by
    rw [List.eq_of_mem_replicate hx]
    have : 0 < 2 ^ m := Nat.two_pow_pos m
    have e : ((2 ^ m : Nat) : Int) = (2 : Int) ^ m := by push_cast; rfl
    omega
  have hg : ∀ k, (List.replicate d (0 : Int)).getD k 0 = 0 := fun k => by
    rw [List.getD_eq_getElem?_getD, List.getElem?_replicate]; split <;> rfl
  obtain ⟨s, e, hE, hD⟩ := calls_even m1 hg d
  have ok := callsTo_ok _ d e
  have hM : OncI.M m d (List.replicate d 0) = (s.out, true) := by
    rw [OncI.M, okB_of m1 m2 d1 d2 hl hz, if_pos rfl, Int.toNat_natCast, hl, e]
  have h := OncI.impl_any w m ⟨by omega, by omega⟩ d ⟨by omega, by omega⟩ v (List.replicate d 0) (fun x hx => by
    rw [List.eq_of_mem_replicate hx]; exact ⟨by omega, by omega⟩) (by omega) (by rw [hl]; exact s2)
  rw [hM] at h
  refine h.mono fun r w' hp => ?_
  obtain ⟨u, rfl, ho, hB⟩ := hp
  dsimp only at ho
  rw [ok.outl] at ho
  obtain ⟨_, c2⟩ := calls_away (sets := List.replicate d 0) (m := m) (sets_bd hz) d
  obtain ⟨_, c3⟩ := c2 s e
  have hin : ∀ x ∈ s.out, 0 ≤ x ∧ x < (m : Int) := fun x hx => by
    obtain ⟨k, hk, rfl⟩ := List.getElem_of_mem hx
    obtain ⟨p, e1, e2, e3, _⟩ := c3 k (by rw [← ok.outl]; exact hk)
    rw [List.getElem?_eq_getElem hk] at e1
    cases e1
    exact ⟨e2, e3⟩
  refine ⟨s.out, u, rfl, ok.outl, hin, fun h2 k k1 k2 heq => ?_, ⟨_, ?_, (gap_even m1 ok.len hE).2⟩, ho, hB⟩
  · refine hD h2 k k1 k2 ?_
    rw [List.getD_eq_getElem?_getD, List.getD_eq_getElem?_getD, List.getElem?_eq_getElem (by rw [ok.outl]; exact k2), List.getElem?_eq_getElem (by rw [ok.outl]; omega)] at heq
    rw [List.getElem?_eq_getElem (by rw [ok.outl]; exact k2), List.getElem?_eq_getElem (by rw [ok.outl]; omega)]
    exact congrArg some heq
  · have hc : manyIn s.out 1 128 0 ((m : Int) - 1) = true := by
      simp only [manyIn, Bool.and_eq_true, decide_eq_true_eq, List.all_eq_true]
      refine ⟨by rw [ok.outl]; omega, by rw [ok.outl]; omega, fun x hx => ?_⟩
      have := hin x hx
      exact inR_iff.2 ⟨by omega, by omega⟩
    rw [GapI.M, hc, inR_iff.2 ⟨by omega, by omega⟩, Int.toNat_natCast, tally_calls d e]
    rfl
/-- some are away -/
def AwayOut (m d : Nat) (sets : List Int) (w : World) (r : Ending) (w' : World) : Prop :=
  ∃ (out : List Int) (ok : Bool) (u : Value), r = .returned (.tuple #[u, .bool ok]) ∧ (ok = true → out.length = d ∧ ∀ k, k < d → 0 ≤ out.getD k 0 ∧ out.getD k 0 < m ∧ (sets.getD k 0).toNat.testBit (out.getD k 0).toNat = false ∧ sets.getD k 0 ≠ 2 ^ m - 1) ∧
    (ok = false → ∃ k, k < d ∧ sets.getD k 0 = 2 ^ m - 1) ∧ w'.ownsRow w.heap.size 2 1 u out.length (out.map vi) ∧ Below w.heap.size w w'
theorem away_any (m d : Nat) (m1 : 1 ≤ m) (m2 : m ≤ 12) (d1 : 1 ≤ d) (d2 : d ≤ 128) (sets : List Int) (hl : sets.length = d) (hs : ∀ x ∈ sets, 0 ≤ x ∧ x < 2 ^ m) (v : Value) (w : World) (s2 : Sl w 1 v d (sets.map vi)) :
    Calls Try.prog 8 #[.int .i64 m, .int .i64 d, v] w (AwayOut m d sets w) := by
  have h := OncI.impl_any w m ⟨by omega, by omega⟩ d ⟨by omega, by omega⟩ v sets (fun x hx => by
    have := hs x hx
    have := pow_4096 m2
    exact ⟨by omega, by omega⟩) (by omega) (by rw [hl]; exact s2)
  obtain ⟨c1, c2⟩ := calls_away (sets := sets) (m := m) (sets_bd hs) d
  have hk := okB_of m1 m2 d1 d2 hl hs
  cases e : callsTo m sets d with
  | none =>
    have hM : OncI.M m d sets = ([], false) := by rw [OncI.M, hk, if_pos rfl, Int.toNat_natCast, hl, e]
    rw [hM] at h
    refine h.mono fun r w' hp => ?_
    obtain ⟨u, rfl, ho, hB⟩ := hp
    exact ⟨[], false, u, rfl, fun h => (by cases h), fun _ => c1 e, ho, hB⟩
  | some s =>
    have ok := callsTo_ok _ d e
    have hM : OncI.M m d sets = (s.out, true) := by rw [OncI.M, hk, if_pos rfl, Int.toNat_natCast, hl, e]
    rw [hM] at h
    refine h.mono fun r w' hp => ?_
    obtain ⟨u, rfl, ho, hB⟩ := hp
    obtain ⟨c4, c3⟩ := c2 s e
    refine ⟨s.out, true, u, rfl, fun _ => ⟨ok.outl, fun k hk2 => ?_⟩, fun h => (by cases h), ho, hB⟩
    obtain ⟨p, e1, e2, e3, e4⟩ := c3 k hk2
    have eg : s.out.getD k 0 = p := by rw [List.getD_eq_getElem?_getD, e1]; rfl
    rw [eg]
    exact ⟨e2, e3, e4, c4 m1 k hk2⟩
end Go.Proofs.Ytfeehfmiicleaaa
