/- Lists of a line as the walk holds them; sums, bounds and loads of stations: contracts. -/
import Derived.Test.YtkaopdpdfbkchaaProg
import Derived.Test.YtkaopdpdfbkchaaLinT
import Derived.Test.YtkaopdpdfbkchaaNum
import Derived.Test.YtkaopdpdfbkchaaApp
import Derived.Test.YtkaopdpdfbkchaaStoreOwn
import Derived.Test.YtkaopdpdfbkchaaMaxMin
import Derived.Test.YtkaopdpdfbkchaaOwnF
import Derived.Sort.AtCall
import Derived.StillTailTactics
namespace Go.Proofs.Ytkaopdpdfbkchaa.Plain
set_option linter.unusedVariables false
set_option linter.unusedSimpArgs false
/-- numbers as a list -/
def fL (n : Nat) (v : Nat → Int) : List Int := (List.range n).map v
theorem fL_len (n : Nat) (v : Nat → Int) : (fL n v).length = n := by simp [fL]
theorem fL_same {n : Nat} {u v : Nat → Int} (h : ∀ i, i < n → u i = v i) : fL n u = fL n v := List.map_congr_left fun i hi => h i (List.mem_range.1 hi)
theorem fL_at {n i : Nat} (v : Nat → Int) (h : i < n) : (fL n v).getD i 0 = v i := by
  rw [fL, List.getD_eq_getElem?_getD, List.getElem?_map, List.getElem?_range h]; rfl
theorem fL_get {n i : Nat} (v : Nat → Int) (h : i < n) : (fL n v)[i]? = some (v i) := by
  rw [fL, List.getElem?_map, List.getElem?_range h]; rfl
theorem fL_set {n i : Nat} (v : Nat → Int) (x : Int) (h : i < n) : (fL n v).set i x = fL n fun m => if m = i then x else v m := by
  refine List.ext_getElem? fun j => ?_
  rw [List.getElem?_set]
  by_cases hj : j < n
  · rw [fL_get _ hj, fL_get _ hj, fL_len]
    by_cases he : i = j
    · subst he; rw [if_pos rfl, if_pos hj, if_pos rfl]
    · rw [if_neg he, if_neg (fun e => he e.symm)]
  · rw [if_neg (by omega), List.getElem?_eq_none (by rw [fL_len]; omega), List.getElem?_eq_none (by rw [fL_len]; omega)]
theorem fL_const (n : Nat) (x : Int) : fL n (fun _ => x) = List.replicate n x := by
  induction n with
  | zero => rfl
  | succ n ih => rw [fL, List.range_succ, List.map_append, List.replicate_succ', ← ih]; rfl
theorem fL_succ (n : Nat) (v : Nat → Int) : fL (n + 1) v = fL n v ++ [v n] := by rw [fL, List.range_succ, List.map_append]; rfl
theorem fL_of (l : List Int) : l = fL l.length fun i => l.getD i 0 := by
  refine List.ext_getElem? fun j => ?_
  by_cases hj : j < l.length
  · rw [fL_get _ hj, List.getD_eq_getElem?_getD, List.getElem?_eq_getElem hj]; rfl
  · rw [List.getElem?_eq_none (by omega), List.getElem?_eq_none (by rw [fL_len]; omega)]
theorem fL_all {n : Nat} {v : Nat → Int} {lo hi : Int} (h : ∀ i, i < n → lo ≤ v i ∧ v i ≤ hi) : (fL n v).all (inR · lo hi) = true := by
  rw [List.all_eq_true]
  intro x hx
  obtain ⟨i, hi', rfl⟩ := List.mem_map.1 hx
  exact inR_iff.2 (h i (List.mem_range.1 hi'))
theorem fL_many {n : Nat} {v : Nat → Int} {few many lo hi : Int} (h : ∀ i, i < n → lo ≤ v i ∧ v i ≤ hi) (h1 : few ≤ (n : Int)) (h2 : (n : Int) ≤ many) : manyIn (fL n v) few many lo hi = true := by
  rw [manyIn, fL_len, fL_all h]
  simp [h1, h2]
/-- the sum of the first k -/
def sumZ (v : Nat → Int) : Nat → Int
  | 0 => 0
  | k + 1 => sumZ v k + v k
theorem sumZ_bd {v : Nat → Int} {b : Int} (b0 : 0 ≤ b) : ∀ {k : Nat}, (∀ i, i < k → 0 ≤ v i ∧ v i ≤ b) → 0 ≤ sumZ v k ∧ sumZ v k ≤ b * (k : Int)
  | 0, _ => by simp [sumZ]
  | k + 1, h => by
    have h1 := sumZ_bd b0 (k := k) fun i hi => h i (by omega)
    have h2 := h k (by omega)
    rw [sumZ]
    push_cast
    rw [Int.mul_add, Int.mul_one]
    omega
theorem sumZ_nat (t : Nat → Nat) : ∀ k, sumZ (fun i => (t i : Int)) k = (sumN t k : Int)
  | 0 => rfl
  | k + 1 => by rw [sumZ, sumN, sumZ_nat t k]; push_cast; rfl
theorem maxTo_is {v : Nat → Int} {n : Nat} {m : Int} (h : ∀ i, i < n → v i ≤ m) (he : ∃ i, i < n ∧ v i = m) : maxTo (fL n v) (fL n v).length = m := by
  obtain ⟨i, hi, e⟩ := he
  have key : ∀ k, 0 < n → k ≤ n → maxTo (fL n v) k ≤ m ∧ ∀ j, j < k → v j ≤ maxTo (fL n v) k := fun k hn => by
    induction k with
    | zero => intro _; rw [maxTo, fL_at v hn]; exact ⟨h 0 hn, fun j hj => by omega⟩
    | succ k ih =>
      intro hk
      have h1 := ih (by omega)
      rw [maxTo, fL_at v (by omega)]
      have h2 := h k (by omega)
      refine ⟨by omega, fun j hj => ?_⟩
      by_cases hjk : j = k
      · subst hjk; omega
      · have := h1.2 j (by omega); omega
  rw [fL_len]
  have h1 := key n (by omega) (Nat.le_refl _)
  have h2 := h1.2 i hi
  omega
end Go.Proofs.Ytkaopdpdfbkchaa.Plain
namespace Go.Proofs.Ytkaopdpdfbkchaa
open Go.RowKit Plain
set_option linter.unusedVariables false
set_option linter.unusedSimpArgs false
attribute [local go_sem ↓] Go.wp_at_zero Go.wp_at_succ
/-- a slice that holds a function -/
structure FA (w : World) (b o c n : Nat) (f : Nat → Int) : Prop where
  nc : n ≤ c
  cl : ∀ i, i < n → w.cell? ⟨b, o + i, none⟩ = some (.int .i64 (f i))
theorem FA.below {w w' : World} {b o c n : Nat} {f : Nat → Int} (h : FA w b o c n f) (hb : Below w.heap.size w w') : FA w' b o c n f := ⟨h.nc, fun i hi => below_at hb (h.cl i hi)⟩
theorem FA.grown {w w' : World} {b o c n g : Nat} {f : Nat → Int} (h : FA w b o c n f) (hg : w.grownBy w' (some g)) (hne : b ≠ g) : FA w' b o c n f := ⟨h.nc, fun i hi => hg.cell (h.cl i hi) (by simp; exact hne)⟩
theorem FA.same {w : World} {b o c n : Nat} {f f' : Nat → Int} (h : FA w b o c n f) (he : ∀ i, i < n → f i = f' i) : FA w b o c n f' := ⟨h.nc, fun i hi => by rw [← he i hi]; exact h.cl i hi⟩
theorem FA.rd {w : World} {b o c n : Nat} {f : Nat → Int} (h : FA w b o c n f) (hn : n ≤ 1048576) : Rd w 1 (some ⟨b, o, none⟩) n ((fL n f).map vi) :=
  ⟨by simp [fL_len], by unfold maxLen; omega, fun hz => ⟨b, o, rfl, fun j u hj => by
    rw [List.getElem?_map] at hj
    by_cases hlt : j < n
    · rw [fL_get f hlt] at hj
      simp only [Option.map_some, Option.some.injEq] at hj
      subst hj; exact h.cl j hlt
    · rw [List.getElem?_eq_none (by rw [fL_len]; omega)] at hj; cases hj⟩⟩
theorem FA.sl {w : World} {b o c n : Nat} {f : Nat → Int} (h : FA w b o c n f) (hn : n ≤ 1048576) : Sl w 1 (.slice (some ⟨b, o, none⟩) n c) n ((fL n f).map vi) := ⟨_, _, rfl, h.nc, h.rd hn⟩
theorem FA.slf {w : World} {b o c n : Nat} {f : Nat → Int} (h : FA w b o c n f) (hn : n ≤ 1048576) : Sl w 1 (.slice (some ⟨b, o, none⟩) n c) (fL n f).length ((fL n f).map vi) := by rw [fL_len]; exact h.sl hn
/-- a row of the call's own that holds a function -/
abbrev OwnL (w : World) (base g n cap : Nat) (f : Nat → Int) : Prop := w.ownsRow base 2 1 (.slice (some ⟨g, 0, none⟩) n cap) n ((fL n f).map vi)
theorem OwnL.fa {w : World} {base g n cap : Nat} {f : Nat → Int} (h : OwnL w base g n cap f) (hn : n ≤ 1048576) : FA w g 0 cap n f :=
  ⟨(own_sl h (by unfold maxLen; omega)).elim fun A h => h.elim fun c h => by cases h.1; exact h.2.1, fun i hi => by
    rw [Nat.zero_add, h.cellAt i (by omega), List.getElem?_map, fL_get f hi]; rfl⟩
theorem OwnL.at {w : World} {base g n cap : Nat} {f : Nat → Int} (h : OwnL w base g n cap f) {i : Nat} (hi : i < n) : w.cell? ⟨g, i, none⟩ = some (.int .i64 (f i)) := by
  rw [h.cellAt i (by omega), List.getElem?_map, fL_get f hi]; rfl
theorem OwnL.set {w : World} {base g n cap i : Nat} {f : Nat → Int} {x : Int} (h : w.ownsRow base 2 1 (.slice (some ⟨g, 0, none⟩) n cap) n (((fL n f).map vi).set i (.int .i64 x))) (hi : i < n) : OwnL w base g n cap (fun m => if m = i then x else f m) := by
  unfold OwnL
  rw [← fL_set f x hi, List.map_set]; exact h
theorem OwnL.same {w : World} {base g n cap : Nat} {f f' : Nat → Int} (h : OwnL w base g n cap f) (he : ∀ i, i < n → f i = f' i) : OwnL w base g n cap f' := by
  unfold OwnL at *
  rw [← fL_same he]; exact h
set_option maxHeartbeats 1000000 in
theorem sumOf_any (b o c n : Nat) (f : Nat → Int) (w : World) (h : FA w b o c n f) (hn : n ≤ 1000) (hf : ∀ i, i < n → 0 ≤ f i ∧ f i ≤ 1000000) :
    Calls Try.prog 40 #[.slice (some ⟨b, o, none⟩) n c] w fun r w' => r = .returned (.int .i64 (sumZ f n)) ∧ w' = w := by
  have HF := hd h
  have hnc := h.nc
  have S0 := hd (show sumZ f 0 = 0 from rfl)
  have SS := hd (fun k => (show sumZ f (k + 1) = sumZ f k + f k from rfl))
  have SB := hd (fun k (hk : k ≤ n) => sumZ_bd (v := f) (b := 1000000) (by omega) (k := k) fun i hi => hf i (by omega))
  have FB := hd hf
  clear h hf
  obtain ⟨s, hs⟩ : ∃ s, s = sumZ f := ⟨_, rfl⟩
  rw [← hs] at S0 SS SB ⊢
  clear hs
  go_enter Try.func40, Try.ntmps40
  go_wp2
  go_loopw [3, 8] (fun sv iv wr => ∃ k : Nat, k ≤ n ∧ iv = .int .i64 k ∧ sv = .int .i64 (s k) ∧ wr = w) (fun _ iv _ => n - (intOf iv).toNat)
  case atStart => exact ⟨0, by omega, rfl, by rw [S0.out], rfl⟩
  case round =>
    obtain ⟨k, hk, rfl, rfl, hw⟩ := hrel
    subst hw
    by_cases hlt : k < n
    · have k2 : (k : Int) < (n : Int) := Int.ofNat_lt.2 hlt
      have c1 := HF.out.cl k hlt
      have b1 := SB.out k (by omega)
      have b2 := SB.out (k + 1) (by omega)
      have ss := SS.out k
      have fb := FB.out k hlt
      have hw1 : IntKind.i64.wrap (s k + f k) = s (k + 1) := by
        rw [← ss]; push_cast at b2; exact IntWalk.i64_in _ (by omega)
      clear b1 b2 ss fb
      generalize f k = fk at *
      go_wp2
      go_roundw
      case rel => exact ⟨k + 1, by omega, by go_num, by first | rfl | rw [hw1], by first | rfl | trivial⟩
      case measure => simp [intOf]; omega
    · obtain rfl : n = k := by omega
      go_wp2
      go_ret
      exact ⟨rfl, rfl⟩
end Go.Proofs.Ytkaopdpdfbkchaa
