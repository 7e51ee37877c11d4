/- The rounds of RunArcs, layer by layer. -/
import Derived.Test.YtclkgfcehmmgaaaMarked
import Derived.Test.YtclkgfcehmmgaaaRunT
namespace Go.Proofs.Ytclkgfcehmmgaaa
open Go.RowKit Plain
set_option linter.unusedVariables false
set_option linter.unusedSimpArgs false

/-- the arcs that rise in round k -/
def layA (n k : Nat) (l : List Q4) : List ArcT := (l.filter fun a => decide (a.d ≤ (k : Int))).map fun a => ((k - a.d.toNat) * n + a.a.toNat, k * n + a.b.toNat, a.c)
def outR (l : List Q4) (n R : Nat) : Nat → List Int
  | 0 => List.replicate (R * n) 0
  | k + 1 => itA (layA n k l) (outR l n R k) n
theorem outR_len (l : List Q4) (n R k : Nat) : (outR l n R k).length = R * n := by
  induction k with
  | zero => simp [outR]
  | succ k ih => rw [outR, itA_len, ih]
theorem layA_in {n k R : Nat} {l : List Q4} (h : ∀ a ∈ l, arcB (n : Int) a = true) (hk : k < R) : ∀ a ∈ layA n k l, a.2.1 < R * n ∧ k * n ≤ a.2.1 ∧ a.2.1 < k * n + n := by
  intro a ha
  simp only [layA, List.mem_map, List.mem_filter] at ha
  obtain ⟨z, ⟨hz, _⟩, rfl⟩ := ha
  have := h z hz
  obtain ⟨a, b, c, d⟩ := z
  obtain ⟨_, ⟨b0, b1⟩, _⟩ := arcB_iff.1 this
  have hb : b.toNat < n := by omega
  have hm : (k + 1) * n ≤ R * n := Nat.mul_le_mul_right n hk
  rw [Nat.add_mul, Nat.one_mul] at hm
  refine ⟨?_, ?_, ?_⟩
  · show k * n + b.toNat < R * n; omega
  · show k * n ≤ k * n + b.toNat; omega
  · show k * n + b.toNat < k * n + n; omega
/-- a bound of one layer's rises -/
theorem lay_bound {n k : Nat} {l : List Q4} (hn : 1 ≤ n) (hn2 : n ≤ 12) (hl : l.length ≤ 32) (h : ∀ a ∈ l, arcB (n : Int) a = true) (hm : fixA (asQ 0 1 (bareOf l)) n = true) {o : List Int} {B : Int} (hB : 0 ≤ B) (ho : ∀ v, o.getD v 0 ≤ B) :
    ∃ G : Nat → Int, (∀ v, o.getD v 0 ≤ G v) ∧ (∀ v, G v ≤ B + 6000000000000) ∧ closedA (layA n k l) G := by
  have hfix := of_decide_eq_true hm
  have hcl := fix_closed (fun a ha => by rw [tmA_len]; exact (asQ_in (bare_ok h) a ha).2) hfix
  have hp0 : ∀ y, 0 ≤ (tmA (asQ 0 1 (bareOf l)) n (n - 1)).getD y 0 := fun y => tmA_nonneg _ _ _ _
  have hp1 : ∀ y, (tmA (asQ 0 1 (bareOf l)) n (n - 1)).getD y 0 ≤ 5000000000 := by
    intro y
    have := part_bd (n := n) (asQ_le (lg := 0) (q := 1) (bare_ok h) (by omega) (by omega) (by omega) (by omega)) (by rw [asQ_len]; exact Nat.le_trans (bare_len l) hl) (n - 1) 0 (by omega) (Nat.zero_le _) y
    simp only [partB, List.take_zero, List.foldl_nil, tmB_t] at this
    exact this.2
  generalize hp : (tmA (asQ 0 1 (bareOf l)) n (n - 1)) = p at *
  refine ⟨fun v => if k * n ≤ v ∧ v < k * n + n then B + 1000 + 1000 * p.getD (v - k * n) 0 else o.getD v 0, fun v => ?_, fun v => ?_, fun a ha => ?_⟩
  · (try dsimp only)
    split
    · have := ho v; have := hp0 (v - k * n); omega
    · exact Int.le_refl _
  · (try dsimp only)
    split
    · have := hp1 (v - k * n); omega
    · have := ho v; omega
  · simp only [layA, List.mem_map, List.mem_filter] at ha
    obtain ⟨z, ⟨hz, hd⟩, rfl⟩ := ha
    have hza := h z hz
    obtain ⟨a, b, c, d⟩ := z
    obtain ⟨⟨a0, a1⟩, ⟨b0, b1⟩, ⟨c0, c1⟩, ⟨d0, d1⟩⟩ := arcB_iff.1 hza
    simp only [decide_eq_true_eq] at hd
    (try dsimp only)
    have hx : a.toNat < n := by omega
    have hy : b.toNat < n := by omega
    rw [if_pos (show k * n ≤ k * n + b.toNat ∧ k * n + b.toNat < k * n + n from ⟨by omega, by omega⟩), show k * n + b.toNat - k * n = b.toNat by omega]
    by_cases hd0 : d = 0
    · subst hd0
      have hmem : (a.toNat, b.toNat, (1 : Int) * 1 - 0 * 0) ∈ asQ 0 1 (bareOf l) := by
        rw [asQ, List.mem_map]
        refine ⟨⟨a, b, 1, 0⟩, ?_, rfl⟩
        rw [bareOf, List.mem_map]
        exact ⟨⟨a, b, c, 0⟩, List.mem_filter.2 ⟨hz, rfl⟩, rfl⟩
      have h1 := hcl _ hmem
      simp only at h1
      simp only [Int.toNat_zero, Nat.sub_zero]
      rw [if_pos (show k * n ≤ k * n + a.toNat ∧ k * n + a.toNat < k * n + n from ⟨by omega, by omega⟩), show k * n + a.toNat - k * n = a.toNat by omega]
      omega
    · have hlt : (k - d.toNat) * n + a.toNat < k * n := by
        have h1 : (k - d.toNat + 1) * n ≤ k * n := Nat.mul_le_mul_right n (by omega)
        rw [Nat.add_mul, Nat.one_mul] at h1
        omega
      rw [if_neg (by omega)]
      have h1 := ho ((k - d.toNat) * n + a.toNat)
      have h2 := hp0 b.toNat
      omega
theorem outR_bd {n R : Nat} {l : List Q4} (hn : 1 ≤ n) (hn2 : n ≤ 12) (hl : l.length ≤ 32) (h : ∀ a ∈ l, arcB (n : Int) a = true) (hm : fixA (asQ 0 1 (bareOf l)) n = true) (k : Nat) : ∀ v, 0 ≤ (outR l n R k).getD v 0 ∧ (outR l n R k).getD v 0 ≤ k * 6000000000000 := by
  induction k with
  | zero => intro v; rw [outR, zeroA]; simp
  | succ k ih =>
    intro v
    obtain ⟨G, g1, g2, g3⟩ := lay_bound (k := k) hn hn2 hl h hm (o := outR l n R k) (B := k * 6000000000000) (by omega) (fun v => (ih v).2)
    refine ⟨Int.le_trans (ih v).1 (itA_ge _ _ _ v), ?_⟩
    have := Int.le_trans (itA_le g1 g3 n v) (g2 v)
    rw [outR]
    push_cast
    omega
/-- while round k runs -/
theorem lay_bd {n R : Nat} {l : List Q4} (hn : 1 ≤ n) (hn2 : n ≤ 12) (hl : l.length ≤ 32) (h : ∀ a ∈ l, arcB (n : Int) a = true) (hm : fixA (asQ 0 1 (bareOf l)) n = true) (k j : Nat) (hk : k < 20) (v : Nat) : 0 ≤ (itA (layA n k l) (outR l n R k) j).getD v 0 ∧ (itA (layA n k l) (outR l n R k) j).getD v 0 ≤ 120000000000000 := by
  have hb := outR_bd (R := R) hn hn2 hl h hm k
  obtain ⟨G, g1, g2, g3⟩ := lay_bound (k := k) hn hn2 hl h hm (o := outR l n R k) (B := k * 6000000000000) (by omega) (fun v => (hb v).2)
  have := Int.le_trans (itA_le g1 g3 j v) (g2 v)
  exact ⟨Int.le_trans (hb v).1 (itA_ge _ _ _ v), by omega⟩
theorem lay_fix {n R : Nat} {l : List Q4} (hn : 1 ≤ n) (hn2 : n ≤ 12) (hl : l.length ≤ 32) (h : ∀ a ∈ l, arcB (n : Int) a = true) (hm : fixA (asQ 0 1 (bareOf l)) n = true) (k : Nat) (hk : k < R) : rndA (layA n k l) (itA (layA n k l) (outR l n R k) n) = itA (layA n k l) (outR l n R k) n := by
  have hb := outR_bd (R := R) hn hn2 hl h hm k
  obtain ⟨G, g1, g2, g3⟩ := lay_bound (k := k) hn hn2 hl h hm (o := outR l n R k) (B := k * 6000000000000) (by omega) (fun v => (hb v).2)
  obtain ⟨N, hN⟩ := fix_exists g2 g1 g3
  exact bell2 (b := k * n) (n := n) (fun a ha => by rw [outR_len]; exact layA_in h hk a ha) hN
/-- the list behind the first i arcs of a turn -/
def prefR (n k : Nat) (l : List Q4) (o : List Int) (i : Nat) : List Int := rndA (layA n k (l.take i)) o
theorem prefR_all (n k : Nat) (l : List Q4) (o : List Int) : prefR n k l o l.length = rndA (layA n k l) o := by rw [prefR, List.take_length]
theorem prefR_skip {n k : Nat} {l : List Q4} {o : List Int} {i : Nat} {a : Q4} (ha : l[i]? = some a) (hd : ¬ a.d ≤ (k : Int)) : prefR n k l o (i + 1) = prefR n k l o i := by
  rw [prefR, prefR, List.take_add_one, ha, layA, List.filter_append]
  simp [hd, layA]
theorem prefR_arc {n k : Nat} {l : List Q4} {o : List Int} {i : Nat} {a : Q4} (ha : l[i]? = some a) (hd : a.d ≤ (k : Int)) : prefR n k l o (i + 1) = relA (prefR n k l o i) ((k - a.d.toNat) * n + a.a.toNat, k * n + a.b.toNat, a.c) := by
  rw [prefR, prefR, List.take_add_one, ha, layA, List.filter_append, List.map_append]
  simp only [Option.toList, List.filter_cons, decide_eq_true hd, if_true, List.filter_nil, List.map_cons, List.map_nil]
  rw [rndA_app1]
  rfl
theorem prefR_len (n k : Nat) (l : List Q4) (o : List Int) (i : Nat) : (prefR n k l o i).length = o.length := by rw [prefR, rndA_len]
theorem prefR_ge (n k : Nat) (l : List Q4) (o : List Int) (i v : Nat) : o.getD v 0 ≤ (prefR n k l o i).getD v 0 := rndA_ge _ _ _
/-- within a turn, too -/
theorem pref_bd {n R : Nat} {l : List Q4} (hn : 1 ≤ n) (hn2 : n ≤ 12) (hl : l.length ≤ 32) (h : ∀ a ∈ l, arcB (n : Int) a = true) (hm : fixA (asQ 0 1 (bareOf l)) n = true) (k j i : Nat) (hk : k < 20) (v : Nat) : 0 ≤ (prefR n k l (itA (layA n k l) (outR l n R k) j) i).getD v 0 ∧ (prefR n k l (itA (layA n k l) (outR l n R k) j) i).getD v 0 ≤ 120000000000000 := by
  have h1 := lay_bd (R := R) hn hn2 hl h hm k j hk v
  have h2 := lay_bd (R := R) hn hn2 hl h hm k (j + 1) hk v
  refine ⟨Int.le_trans h1.1 (prefR_ge _ _ _ _ _ v), Int.le_trans ?_ h2.2⟩
  rw [itA, ← prefR_all]
  by_cases hi : i ≤ l.length
  · obtain ⟨d, hd⟩ : ∃ d, l.length = i + d := ⟨l.length - i, by omega⟩
    rw [hd]
    clear hd h1 h2
    induction d with
    | zero => exact Int.le_refl _
    | succ d ih =>
      refine Int.le_trans ih ?_
      rw [← Nat.add_assoc]
      cases hg : l[i + d]? with
      | none => rw [prefR, prefR, List.take_of_length_le (Nat.le_succ_of_le (List.getElem?_eq_none_iff.1 hg)), List.take_of_length_le (List.getElem?_eq_none_iff.1 hg)]; exact Int.le_refl _
      | some a =>
        by_cases hd : a.d ≤ (k : Int)
        · rw [prefR_arc hg hd]; exact relA_ge _ _ _
        · rw [prefR_skip hg hd]; exact Int.le_refl _
  · rw [prefR, prefR, List.take_of_length_le (by omega), List.take_length]; exact Int.le_refl _
end Go.Proofs.Ytclkgfcehmmgaaa
