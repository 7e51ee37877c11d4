/- The program's search for the cheapest haste: what its closure does, a contract. -/
import Derived.Test.YtdbojkanelmlkaaProg
import Derived.Test.YtdbojkanelmlkaaHstD
import Derived.Test.YtdbojkanelmlkaaStoreBox
import Derived.Test.YtdbojkanelmlkaaProC
import Derived.Test.YtdbojkanelmlkaaCopy
import Derived.Deep.RegionWith
import Derived.Deep.RegionHeld3
import Derived.StillTailTactics
namespace Go.Proofs.Ytdbojkanelmlkaa
open Go.RowKit Plain
set_option linter.unusedVariables false
set_option linter.unusedSimpArgs false
attribute [local go_sem ↓] Go.wp_at_zero Go.wp_at_succ
theorem hCo_bd {ts : List TK} {most costs : List Int} {n : Nat} (ho : TasksOk ts n) (hm : ∀ i, i < n → 0 ≤ most.getD i 0 ∧ most.getD i 0 ≤ 3) (hc : ∀ i, i < n → 0 ≤ costs.getD i 0 ∧ costs.getD i 0 ≤ 1000) (t : Nat) : ∀ k, k ≤ n → 0 ≤ hCo ts most costs n t k ∧ hCo ts most costs n t k ≤ 3000 * (k : Int)
  | 0, _ => by simp [hCo]
  | k + 1, hk => by
    have h1 := hCo_bd ho hm hc t k (by omega)
    have h2 := cut_ok ho (fun i hi => (hm i hi).1) t k (by omega)
    have h3 := hm k (by omega)
    have h4 := hc k (by omega)
    have h5 : 0 ≤ (cutN ts most n t k : Int) * costs.getD k 0 := Int.mul_nonneg h2.1 h4.1
    have h6 : (cutN ts most n t k : Int) * costs.getD k 0 ≤ 3 * 1000 := Int.mul_le_mul (by omega) h4.2 h4.1 (by omega)
    rw [hCo]
    push_cast
    omega
theorem hCo_same {ts : List TK} {most costs : List Int} {n t u : Nat} : ∀ k, (∀ j, j < k → cutN ts most n t j = cutN ts most n u j) → hCo ts most costs n t k = hCo ts most costs n u k
  | 0, _ => rfl
  | k + 1, h => by rw [hCo, hCo, hCo_same k fun j hj => h j (by omega), h k (by omega)]
/-- numbers as a list -/
def fnL (n : Nat) (v : Nat → Int) : List Int := (List.range n).map v
theorem fnL_len (n : Nat) (v : Nat → Int) : (fnL n v).length = n := by simp [fnL]
theorem fnL_same {n : Nat} {u v : Nat → Int} (h : ∀ i, i < n → u i = v i) : fnL n u = fnL n v := List.map_congr_left fun i hi => h i (List.mem_range.1 hi)
theorem fnL_at {n i : Nat} (v : Nat → Int) (h : i < n) : (fnL n v).getD i 0 = v i := by
  rw [fnL, List.getD_eq_getElem?_getD, List.getElem?_map, List.getElem?_range h]; rfl
theorem fnL_set {n i : Nat} (v : Nat → Int) (x : Int) (h : i < n) : (fnL n v).set i x = fnL n fun m => if m = i then x else v m := by
  refine List.ext_getElem? fun j => ?_
  rw [List.getElem?_set]
  by_cases hj : j < n
  · rw [fnL, fnL, List.getElem?_map, List.getElem?_map, List.getElem?_range hj]
    simp only [List.length_map, List.length_range, Option.map_some]
    by_cases he : i = j
    · subst he; rw [if_pos rfl, if_pos hj, if_pos rfl]
    · rw [if_neg he, if_neg (fun e => he e.symm)]
  · rw [if_neg (by omega), fnL, fnL, List.getElem?_eq_none (by simpa using Nat.le_of_not_lt hj), List.getElem?_eq_none (by simpa using Nat.le_of_not_lt hj)]
theorem fnL_zero (n : Nat) : fnL n (fun _ => 0) = List.replicate n 0 := by
  induction n with
  | zero => rfl
  | succ n ih => rw [fnL, List.range_succ, List.map_append, List.replicate_succ', ← ih]; rfl
theorem shortT_same (ts : List TK) {n : Nat} {u v : Nat → Int} (h : ∀ i, i < n → u i = v i) : shortT ts n u = shortT ts n v := by
  refine List.map_congr_left fun i hi => ?_
  rw [h i (List.mem_range.1 hi)]
/-- the numbers of the blocks of a search -/
structure HK where
  B : Nat
  b : Nat
  c : Nat
  bm : Nat
  om : Nat
  cm : Nat
  bk : Nat
  ok : Nat
  ck : Nat
  xT : Nat
  xM : Nat
  xK : Nat
  xE : Nat
  xN : Nat
  xB : Nat
  xL : Nat
  gS : Nat
  cS : Nat
  xS : Nat
  gC : Nat
  xC : Nat
  xP : Nat
  B1 : Nat
def HK.ord (k : HK) : Prop := k.B ≤ k.xT ∧ k.xT < k.xM ∧ k.xM < k.xK ∧ k.xK < k.xE ∧ k.xE < k.xN ∧ k.xN < k.xB ∧ k.xB < k.xL ∧ k.xL < k.gS ∧ k.gS < k.xS ∧ k.xS < k.gC ∧ k.gC < k.xC ∧ k.xC < k.xP ∧ k.xP < k.B1
def HK.put (k : HK) : Value := .func (.func 31) #[] #[.pointer (some ⟨k.xN, 0, none⟩), .pointer (some ⟨k.xS, 0, none⟩), .pointer (some ⟨k.xE, 0, none⟩), .pointer (some ⟨k.xB, 0, none⟩), .pointer (some ⟨k.xL, 0, none⟩), .pointer (some ⟨k.xC, 0, none⟩), .pointer (some ⟨k.xM, 0, none⟩), .pointer (some ⟨k.xT, 0, none⟩), .pointer (some ⟨k.xP, 0, none⟩), .pointer (some ⟨k.xK, 0, none⟩)]
/-- the cells that stay -/
structure HFix (k : HK) (w : World) (n : Nat) (goal : Int) : Prop where
  cN : w.cell? ⟨k.xN, 0, none⟩ = some (.int .i64 n)
  cS : w.cell? ⟨k.xS, 0, none⟩ = some (.slice (some ⟨k.gS, 0, none⟩) n k.cS)
  cE : w.cell? ⟨k.xE, 0, none⟩ = some (.int .i64 goal)
  cC : w.cell? ⟨k.xC, 0, none⟩ = some (.slice (some ⟨k.gC, 0, none⟩) n n)
  cM : w.cell? ⟨k.xM, 0, none⟩ = some (.slice (some ⟨k.bm, k.om, none⟩) n k.cm)
  cT : w.cell? ⟨k.xT, 0, none⟩ = some (.slice (some ⟨k.b, 0, none⟩) n k.c)
  cP : w.cell? ⟨k.xP, 0, none⟩ = some k.put
  cK : w.cell? ⟨k.xK, 0, none⟩ = some (.slice (some ⟨k.bk, k.ok, none⟩) n k.ck)
theorem HFix.below {k : HK} {w w' : World} {n : Nat} {goal : Int} (h : HFix k w n goal) (hb : Below w.heap.size w w') : HFix k w' n goal :=
  ⟨below_at hb h.cN, below_at hb h.cS, below_at hb h.cE, below_at hb h.cC, below_at hb h.cM, below_at hb h.cT, below_at hb h.cP, below_at hb h.cK⟩
theorem HFix.grown {k : HK} {w w' : World} {n : Nat} {goal : Int} {g : Nat} (h : HFix k w n goal) (hg : w.grownBy w' (some g)) (ho : k.ord) (hd : g = k.gC ∨ g = k.gS ∨ g = k.xB ∨ g = k.xL) : HFix k w' n goal := by
  obtain ⟨o1, o2, o3, o4, o5, o6, o7, o8, o9, o10, o11, o12, o13⟩ := ho
  exact ⟨hg.cell h.cN (by simp; omega), hg.cell h.cS (by simp; omega), hg.cell h.cE (by simp; omega), hg.cell h.cC (by simp; omega), hg.cell h.cM (by simp; omega), hg.cell h.cT (by simp; omega), hg.cell h.cP (by simp; omega), hg.cell h.cK (by simp; omega)⟩
/-- the state of a search -/
structure HSt (k : HK) (w0 w : World) (ts : List TK) (n : Nat) (goal : Int) (v : Nat → Int) (V : Value) (l : Int) : Prop where
  fx : HFix k w n goal
  hB : w.heap[k.xB]? = some (.cells #[V] 27 (0, 0))
  hL : w.heap[k.xL]? = some (.cells #[.int .i64 l] 2 (0, 0))
  rS : w.ownsRow k.B 34 4 (.slice (some ⟨k.gS, 0, none⟩) n k.cS) n (shCells w0 k.b 0 n ts v)
  rC : w.ownsRow k.B 2 1 (.slice (some ⟨k.gC, 0, none⟩) n n) n ((fnL n v).map vi)
  sz : k.B1 ≤ w.heap.size
theorem HSt.below {k : HK} {w0 w w' : World} {ts : List TK} {n : Nat} {goal : Int} {v : Nat → Int} {V : Value} {l : Int} (h : HSt k w0 w ts n goal v V l) (hb : Below w.heap.size w w') (ho : k.ord) : HSt k w0 w' ts n goal v V l := by
  have sz := h.sz
  obtain ⟨o1, o2, o3, o4, o5, o6, o7, o8, o9, o10, o11, o12, o13⟩ := ho
  exact ⟨h.fx.below hb, (hb.block _ (by omega)).trans h.hB, (hb.block _ (by omega)).trans h.hL, own_below h.rS hb, own_below h.rC hb, Nat.le_trans sz hb.size⟩
theorem HSt.drewN {k : HK} {w0 w : World} {ts : List TK} {n : Nat} {goal : Int} {v : Nat → Int} {V : Value} {l : Int} (h : HSt k w0 w ts n goal v V l) (m : Nat) (ho : k.ord) : HSt k w0 (w.drewN m) ts n goal v V l := h.below (below_drewN (Below.refl _ _) m) ho
/-- a cut is written -/
theorem HSt.cut {k : HK} {w0 w w' : World} {ts : List TK} {n : Nat} {goal : Int} {v u : Nat → Int} {V : Value} {l : Int} (fx : HFix k w n goal) (hB : w.heap[k.xB]? = some (.cells #[V] 27 (0, 0))) (hL : w.heap[k.xL]? = some (.cells #[.int .i64 l] 2 (0, 0)))
    (rS : w.ownsRow k.B 34 4 (.slice (some ⟨k.gS, 0, none⟩) n k.cS) n (shCells w0 k.b 0 n ts v)) (sz : k.B1 ≤ w.heap.size)
    (hg : w.grownBy w' (some k.gC)) (ho : k.ord) (hc : w'.ownsRow k.B 2 1 (.slice (some ⟨k.gC, 0, none⟩) n n) n ((fnL n u).map vi)) :
    HFix k w' n goal ∧ w'.heap[k.xB]? = some (.cells #[V] 27 (0, 0)) ∧ w'.heap[k.xL]? = some (.cells #[.int .i64 l] 2 (0, 0)) ∧ w'.ownsRow k.B 34 4 (.slice (some ⟨k.gS, 0, none⟩) n k.cS) n (shCells w0 k.b 0 n ts v) ∧ k.B1 ≤ w'.heap.size := by
  have hfx := fx.grown hg ho (.inl rfl)
  obtain ⟨o1, o2, o3, o4, o5, o6, o7, o8, o9, o10, o11, o12, o13⟩ := ho
  refine ⟨hfx, (hg.block _ (by omega) (by simp; omega)).trans hB, (hg.block _ (by omega) (by simp; omega)).trans hL, rS.kept hg (.inr ?_), Nat.le_trans sz hg.size⟩
  simp only [Value.ownBlock, Option.map_some, ne_eq, Option.some.injEq]; omega
/-- the best so far -/
def HBest (k : HK) (w : World) (ts : List TK) (most costs : List Int) (n : Nat) (r : Option Nat) (V : Value) (l : Int) : Prop :=
  match r with
  | none => V = .slice none 0 0 ∧ l = 0
  | some t => l = hCo ts most costs n t n ∧ ∃ g cg, V = .slice (some ⟨g, 0, none⟩) n cg ∧ w.ownsRow k.B1 2 1 V n ((fnL n fun i => (cutN ts most n t i : Int)).map vi)
theorem HBest.below {k : HK} {w w' : World} {ts : List TK} {most costs : List Int} {n : Nat} {r : Option Nat} {V : Value} {l : Int} (h : HBest k w ts most costs n r V l) (hb : Below w.heap.size w w') : HBest k w' ts most costs n r V l := by
  cases r with
  | none => exact h
  | some t =>
    obtain ⟨h1, g, cg, h2, h3⟩ := h
    exact ⟨h1, g, cg, h2, own_below h3 hb⟩
theorem HBest.grown {k : HK} {w w' : World} {ts : List TK} {most costs : List Int} {n : Nat} {r : Option Nat} {V : Value} {l : Int} {g : Nat} (h : HBest k w ts most costs n r V l) (hg : w.grownBy w' (some g)) (hlt : g < k.B1) : HBest k w' ts most costs n r V l := by
  cases r with
  | none => exact h
  | some t =>
    obtain ⟨h1, g', cg, h2, h3⟩ := h
    refine ⟨h1, g', cg, h2, h3.kept hg (.inr fun e => ?_)⟩
    have := own_row h3 (Nat.le_refl _) g e
    omega
/-- a new best is kept -/
theorem HSt.took {k : HK} {w0 w4 w5 w6 : World} {ts : List TK} {n : Nat} {goal : Int} {v : Nat → Int} {V u : Value} {l l' : Int} (h : HSt k w0 w4 ts n goal v V l) (hx5 : w5.heap[k.xB]? = some (.cells #[u] 27 (0, 0))) (hg5 : w4.grownBy w5 (some k.xB))
    (hx6 : w6.heap[k.xL]? = some (.cells #[.int .i64 l'] 2 (0, 0))) (hg6 : w5.grownBy w6 (some k.xL)) (ho : k.ord) : HSt k w0 w6 ts n goal v u l' := by
  have f5 := h.fx.grown hg5 ho (.inr (.inr (.inl rfl)))
  have f6 := f5.grown hg6 ho (.inr (.inr (.inr rfl)))
  have sz := h.sz
  have s5 := hg5.size
  have s6 := hg6.size
  obtain ⟨o1, o2, o3, o4, o5, o6, o7, o8, o9, o10, o11, o12, o13⟩ := ho
  refine ⟨f6, (hg6.block _ (by omega) (by simp; omega)).trans hx5, hx6, (h.rS.kept hg5 (.inr ?_)).kept hg6 (.inr ?_), (h.rC.kept hg5 (.inr ?_)).kept hg6 (.inr ?_), by omega⟩
  all_goals simp only [Value.ownBlock, Option.map_some, ne_eq, Option.some.injEq]; omega
theorem hB_hit0 {ok : Nat → Bool} {co : Nat → Int} {t : Nat} (h : hB ok co t = none) (ho : ok t = true) : hB ok co (t + 1) = some t := by rw [hB, h]; simp only; rw [if_pos ho]
theorem hB_hit {ok : Nat → Bool} {co : Nat → Int} {t b : Nat} (h : hB ok co t = some b) (ho : ok t = true) (hc : co t < co b) : hB ok co (t + 1) = some t := by rw [hB, h]; simp only; rw [if_pos ⟨ho, hc⟩]
theorem hB_miss {ok : Nat → Bool} {co : Nat → Int} {t : Nat} (ho : ok t = false) : hB ok co (t + 1) = hB ok co t := by
  rw [hB]
  cases h : hB ok co t with
  | none => simp [ho]
  | some b => simp [ho]
theorem hB_dear {ok : Nat → Bool} {co : Nat → Int} {t b : Nat} (h : hB ok co t = some b) (hc : ¬ co t < co b) : hB ok co (t + 1) = some b := by rw [hB, h]; simp only; rw [if_neg (fun e => hc e.2)]
end Go.Proofs.Ytdbojkanelmlkaa
