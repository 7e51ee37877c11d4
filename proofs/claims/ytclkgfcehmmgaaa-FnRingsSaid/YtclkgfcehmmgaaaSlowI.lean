/- The search for a ring of a size, in the program: boxes, and the closure that goes on along arcs. -/
import Derived.Test.YtclkgfcehmmgaaaProg
import Derived.Test.YtclkgfcehmmgaaaArcs
import Derived.Test.YtclkgfcehmmgaaaApp
import Derived.Test.YtclkgfcehmmgaaaStoreOwn
import Derived.Test.YtclkgfcehmmgaaaStoreBox
import Derived.Test.YtclkgfcehmmgaaaSlowP
import Derived.Sort.AtCall
import Derived.Deep.RegionHeld3
import Derived.Deep.CutRange
namespace Go.Proofs.Ytclkgfcehmmgaaa
open Go.RowKit Plain
set_option linter.unusedVariables false
set_option linter.unusedSimpArgs false
attribute [local go_sem ↓] Go.wp_at_zero Go.wp_at_succ

/-- the nodes that are seen, as cells -/
def rowS (S : Nat) : List Value := (List.range 12).map fun v => .bool (S.testBit v)
theorem rowS_get (S : Nat) {v : Nat} (h : v < 12) : (rowS S)[v]? = some (.bool (S.testBit v)) := by
  rw [rowS, List.getElem?_map, List.getElem?_range h]; rfl
theorem rowS_on (S : Nat) {v : Nat} (h : v < 12) : (rowS S).set v (.bool true) = rowS (S ||| 2 ^ v) := by
  apply List.ext_getElem?
  intro j
  rw [List.getElem?_set]
  by_cases hj : j < 12
  · rw [rowS_get _ hj, rowS_get _ hj, or_bit]
    by_cases e : v = j
    · subst e; rw [if_pos rfl, if_pos (by simp [rowS, h])]; simp
    · rw [if_neg e]; simp [e]
  · rw [if_neg (by omega), rowS, rowS, List.getElem?_eq_none (by simp; omega), List.getElem?_eq_none (by simp; omega)]
theorem rowS_off {S : Nat} {v : Nat} (h : v < 12) (h0 : S.testBit v = false) : (rowS (S ||| 2 ^ v)).set v (.bool false) = rowS S := by
  apply List.ext_getElem?
  intro j
  rw [List.getElem?_set]
  by_cases hj : j < 12
  · rw [rowS_get _ hj, rowS_get _ hj, or_bit]
    by_cases e : v = j
    · subst e; rw [if_pos rfl, if_pos (by simp [rowS, h]), h0]
    · rw [if_neg e]; simp [e]
  · rw [if_neg (by omega), rowS, rowS, List.getElem?_eq_none (by simp; omega), List.getElem?_eq_none (by simp; omega)]
/-- what the search leaves of old memory: all but the list's box, the seen nodes and the list's own block -/
structure Kept (w w' : World) (bO gS : Nat) (u : Value) : Prop where
  os : w'.os = w.os
  tape : w'.tape = w.tape
  output : w'.output = w.output
  size : w.heap.size ≤ w'.heap.size
  block : ∀ k, k < w.heap.size → k ≠ bO → k ≠ gS → u.ownBlock ≠ some k → w'.heap[k]? = w.heap[k]?
/-- the list's block is the old one or a new one -/
def LaterS (w : World) (v u : Value) : Prop := ∀ k, u.ownBlock = some k → v.ownBlock = some k ∨ w.heap.size ≤ k
theorem LaterS.refl (w : World) (v : Value) : LaterS w v v := fun k h => .inl h
theorem LaterS.trans {w w1 : World} {v u u2 : Value} (h : LaterS w v u) (h2 : LaterS w1 u u2) (hs : w.heap.size ≤ w1.heap.size) : LaterS w v u2 := by
  intro k hk
  rcases h2 k hk with h3 | h3
  · exact h k h3
  · exact .inr (Nat.le_trans hs h3)
theorem Kept.refl (w : World) (bO gS : Nat) (u : Value) : Kept w w bO gS u := ⟨rfl, rfl, rfl, Nat.le_refl _, fun _ _ _ _ _ => rfl⟩
theorem Kept.trans {w w1 w2 : World} {bO gS : Nat} {v u : Value} (h : Kept w w1 bO gS v) (h2 : Kept w1 w2 bO gS u) (hl : LaterS w v u) : Kept w w2 bO gS v :=
  ⟨h2.os.trans h.os, h2.tape.trans h.tape, h2.output.trans h.output, Nat.le_trans h.size h2.size, fun k hk h3 h4 h5 => by
    rw [h2.block k (Nat.lt_of_lt_of_le hk h.size) h3 h4 (fun e => by
      rcases hl k e with h6 | h6
      · exact h5 h6
      · omega)]
    exact h.block k hk h3 h4 h5⟩
theorem Kept.of_below {w w' : World} (h : Below w.heap.size w w') (bO gS : Nat) (u : Value) : Kept w w' bO gS u := ⟨h.os, h.tape, h.output, h.size, fun k hk _ _ _ => h.block k hk⟩
theorem Kept.of_box {w w' : World} {bO : Nat} (h : w.grownBy w' (some bO)) (gS : Nat) (u : Value) : Kept w w' bO gS u := ⟨h.os, h.tape, h.output, h.size, fun k hk h3 _ _ => h.block k hk (fun e => h3 (Option.some.inj e))⟩
theorem Kept.of_seen {w w' : World} {gS : Nat} (h : w.grownBy w' (some gS)) (bO : Nat) (u : Value) : Kept w w' bO gS u := ⟨h.os, h.tape, h.output, h.size, fun k hk _ h4 _ => h.block k hk (fun e => h4 (Option.some.inj e))⟩
theorem Kept.of_row {w w' : World} {u : Value} (h : w.grownBy w' u.ownBlock) (bO gS : Nat) : Kept w w' bO gS u := ⟨h.os, h.tape, h.output, h.size, fun k hk _ _ h5 => h.block k hk (fun e => h5 e.symm)⟩
theorem Kept.cell {w w' : World} {bO gS : Nat} {u : Value} (h : Kept w w' bO gS u) {a : Addr} {z : Value} (hc : w.cell? a = some z) (h1 : a.block ≠ bO) (h2 : a.block ≠ gS) (h3 : u.ownBlock ≠ some a.block) : w'.cell? a = some z := by
  have e := h.block a.block (block_lt_of_cell hc) h1 h2 h3
  rw [← hc]
  simp only [World.cell?]
  rw [e]
theorem Kept.below {B : Nat} {w0 w w' : World} {bO gS : Nat} {u : Value} (h : Kept w w' bO gS u) (hb : Below B w0 w) (hs : B ≤ w0.heap.size) (h1 : B ≤ bO) (h2 : B ≤ gS) (h3 : ∀ k, u.ownBlock = some k → B ≤ k) : Below B w0 w' := by
  refine ⟨h.os.trans hb.os, h.tape.trans hb.tape, h.output.trans hb.output, Nat.le_trans hb.size h.size, fun k hk => ?_⟩
  rw [h.block k (Nat.lt_of_lt_of_le hk (Nat.le_trans hs hb.size)) (by omega) (by omega) (fun e => by have := h3 k e; omega)]
  exact hb.block k hk

/-- what the search does not write: the boxes of the arcs, the size, the seen nodes, the quotient and the search itself -/
structure PutB (w : World) (A : Option Addr) (n cap : Nat) (size : Nat) (lg q : Int) (bA bO bZ bS bL bB bP gS : Nat) : Prop where
  a : w.cell? ⟨bA, 0, none⟩ = some (.slice A n cap)
  z : w.cell? ⟨bZ, 0, none⟩ = some (.int .i64 size)
  s : w.cell? ⟨bS, 0, none⟩ = some (.slice (some ⟨gS, 0, none⟩) 12 12)
  l : w.cell? ⟨bL, 0, none⟩ = some (.int .i64 lg)
  b : w.cell? ⟨bB, 0, none⟩ = some (.int .i64 q)
  p : w.cell? ⟨bP, 0, none⟩ = some (.func (.func 52) #[] #[.pointer (some ⟨bA, 0, none⟩), .pointer (some ⟨bO, 0, none⟩), .pointer (some ⟨bZ, 0, none⟩), .pointer (some ⟨bS, 0, none⟩), .pointer (some ⟨bL, 0, none⟩), .pointer (some ⟨bB, 0, none⟩), .pointer (some ⟨bP, 0, none⟩)])
/-- a block that is none of these -/
def NeP (bA bZ bS bL bB bP k : Nat) : Prop := bA ≠ k ∧ bZ ≠ k ∧ bS ≠ k ∧ bL ≠ k ∧ bB ≠ k ∧ bP ≠ k
theorem PutB.kept {w w' : World} {A : Option Addr} {n cap size : Nat} {lg q : Int} {bA bO bZ bS bL bB bP gS : Nat} {u : Value} (h : PutB w A n cap size lg q bA bO bZ bS bL bB bP gS) (hk : Kept w w' bO gS u) (h1 : NeP bA bZ bS bL bB bP bO) (h2 : NeP bA bZ bS bL bB bP gS) (h3 : ∀ k, u.ownBlock = some k → NeP bA bZ bS bL bB bP k) :
    PutB w' A n cap size lg q bA bO bZ bS bL bB bP gS := by
  obtain ⟨a1, a2, a3, a4, a5, a6⟩ := h1
  obtain ⟨c1, c2, c3, c4, c5, c6⟩ := h2
  exact ⟨hk.cell h.a a1 c1 (fun e => (h3 _ e).1 rfl), hk.cell h.z a2 c2 (fun e => (h3 _ e).2.1 rfl), hk.cell h.s a3 c3 (fun e => (h3 _ e).2.2.1 rfl), hk.cell h.l a4 c4 (fun e => (h3 _ e).2.2.2.1 rfl), hk.cell h.b a5 c5 (fun e => (h3 _ e).2.2.2.2.1 rfl), hk.cell h.p a6 c6 (fun e => (h3 _ e).2.2.2.2.2 rfl)⟩
theorem PutB.below {w w' : World} {A : Option Addr} {n cap size : Nat} {lg q : Int} {bA bO bZ bS bL bB bP gS : Nat} (h : PutB w A n cap size lg q bA bO bZ bS bL bB bP gS) (hb : Below w.heap.size w w') : PutB w' A n cap size lg q bA bO bZ bS bL bB bP gS :=
  ⟨below_at hb h.a, below_at hb h.z, below_at hb h.s, below_at hb h.l, below_at hb h.b, below_at hb h.p⟩
/-- the list in its box, the seen nodes -/
structure PutO (w : World) (B bO gS : Nat) (u : Value) (way : List Nat) (sn : List Value) : Prop where
  box : w.heap[bO]? = some (.cells #[u] 29 (0, 0))
  row : w.ownsRow B 2 1 u way.length (way.map fun i : Nat => vi (i : Int))
  sm : ∃ g cap, u = .slice (some ⟨g, 0, none⟩) way.length cap
  seen : w.ownsRow B 4 1 (.slice (some ⟨gS, 0, none⟩) 12 12) 12 sn
/-- the list's block is none of the others -/
def NeO (bA bO bZ bS bL bB bP gS : Nat) (u : Value) : Prop := ∀ k, u.ownBlock = some k → NeP bA bZ bS bL bB bP k ∧ k ≠ bO ∧ k ≠ gS
theorem NeO.later {w : World} {bA bO bZ bS bL bB bP gS : Nat} {v u : Value} (h : NeO bA bO bZ bS bL bB bP gS v) (hl : LaterS w v u) (hs : bA < w.heap.size ∧ bO < w.heap.size ∧ bZ < w.heap.size ∧ bS < w.heap.size ∧ bL < w.heap.size ∧ bB < w.heap.size ∧ bP < w.heap.size ∧ gS < w.heap.size) : NeO bA bO bZ bS bL bB bP gS u := by
  intro k hk
  rcases hl k hk with h1 | h1
  · exact h k h1
  · unfold NeP; omega
theorem heap_lt {w : World} {k : Nat} {o : Obj} (h : w.heap[k]? = some o) : k < w.heap.size := (Array.getElem?_eq_some_iff.1 h).1
theorem PutO.below {w w' : World} {B bO gS : Nat} {u : Value} {way : List Nat} {sn : List Value} (h : PutO w B bO gS u way sn) (hb : Below w.heap.size w w') : PutO w' B bO gS u way sn :=
  ⟨by rw [hb.block bO (heap_lt h.box)]; exact h.box, own_below h.row hb, h.sm, own_below h.seen hb⟩
theorem PutO.cell {w : World} {B bO gS : Nat} {u : Value} {way : List Nat} {sn : List Value} (h : PutO w B bO gS u way sn) : w.cell? ⟨bO, 0, none⟩ = some u := by
  simpa using cell_of_row w bO 0 #[u] _ (0, 0) h.box
theorem PutO.see {w w' : World} {B bO gS : Nat} {u : Value} {way : List Nat} {sn sn' : List Value} (h : PutO w B bO gS u way sn) (ho : w'.ownsRow B 4 1 (.slice (some ⟨gS, 0, none⟩) 12 12) 12 sn') (hg : w.grownBy w' (some gS)) (h1 : bO ≠ gS) (h2 : u.ownBlock ≠ some gS) : PutO w' B bO gS u way sn' :=
  ⟨by rw [hg.block bO (heap_lt h.box) (fun e => h1 (Option.some.inj e))]; exact h.box, h.row.kept hg (.inr h2), h.sm, ho⟩
/-- the list has a number more, in its box -/
theorem PutO.push {w w1 w2 : World} {B bO gS : Nat} {u u' : Value} {way : List Nat} {sn : List Value} {i : Nat} (h : PutO w B bO gS u way sn) (ho : w1.ownsRow B 2 1 u' (way.length + 1) ((way.map fun i : Nat => vi (i : Int)) ++ [.int .i64 (i : Int)])) (hg : w.grownBy w1 u.ownBlock)
    (hx : w2.heap[bO]? = some (.cells #[u'] 29 (0, 0))) (hg2 : w1.grownBy w2 (some bO)) (h1 : u.ownBlock ≠ some gS) (h2 : u'.ownBlock ≠ some bO) (h3 : bO ≠ gS) : PutO w2 B bO gS u' (way ++ [i]) sn := by
  refine ⟨hx, ?_, ?_, ?_⟩
  · have := ho.kept hg2 (.inr h2)
    rw [List.length_append, List.map_append]
    exact this
  · rcases ho.2 with ⟨h5, h6⟩ | ⟨g, cap, cur, h5, h6⟩
    · omega
    · exact ⟨g, cap, by rw [h5, List.length_append]; rfl⟩
  · have := h.seen.kept hg (.inr (fun e => h1 e.symm))
    exact this.kept hg2 (.inr (fun e => h3 (Option.some.inj e).symm))
theorem own_cut {w : World} {base g n cap m : Nat} {e : TypeId} {xs : List Value} (h : w.ownsRow base e 1 (.slice (some ⟨g, 0, none⟩) n cap) n xs) (hm : m ≤ n) : w.ownsRow base e 1 (.slice (some ⟨g, 0, none⟩) m cap) m (xs.take m) := by
  have hl := h.1
  refine ⟨by rw [List.length_take]; omega, ?_⟩
  rcases h.2 with ⟨h5, h6⟩ | ⟨g', cap', cur, h5, h6, h7, h8, h9, h10, h11⟩
  · cases h5
  · cases h5
    refine .inr ⟨g, cap, cur, rfl, h6, h7, by omega, h9, h10, ?_⟩
    rw [← h11, List.take_take]
    congr 1
    omega
/-- the list has a number less, in its box -/
theorem PutO.pop {w w2 : World} {B bO gS g cap : Nat} {way : List Nat} {i : Nat} {sn : List Value} (h : PutO w B bO gS (.slice (some ⟨g, 0, none⟩) (way ++ [i]).length cap) (way ++ [i]) sn)
    (hx : w2.heap[bO]? = some (.cells #[.slice (some ⟨g, 0, none⟩) way.length cap] 29 (0, 0))) (hg2 : w.grownBy w2 (some bO)) (h2 : g ≠ bO) (h3 : bO ≠ gS) : PutO w2 B bO gS (.slice (some ⟨g, 0, none⟩) way.length cap) way sn := by
  refine ⟨hx, ?_, ⟨g, cap, rfl⟩, h.seen.kept hg2 (.inr (fun e => h3 (Option.some.inj e).symm))⟩
  have := own_cut h.row (show way.length ≤ (way ++ [i]).length by simp)
  rw [List.map_append, List.take_append_of_le_length (by simp), List.take_of_length_le (by simp)] at this
  exact this.kept hg2 (.inr (fun e => h2 (Option.some.inj e)))
theorem PutB.lt {w : World} {A : Option Addr} {n cap size : Nat} {lg q : Int} {bA bO bZ bS bL bB bP gS : Nat} (h : PutB w A n cap size lg q bA bO bZ bS bL bB bP gS) : bA < w.heap.size ∧ bZ < w.heap.size ∧ bS < w.heap.size ∧ bL < w.heap.size ∧ bB < w.heap.size ∧ bP < w.heap.size :=
  ⟨block_lt_of_cell h.a, block_lt_of_cell h.z, block_lt_of_cell h.s, block_lt_of_cell h.l, block_lt_of_cell h.b, block_lt_of_cell h.p⟩
theorem ne_later {w : World} {A : Option Addr} {n cap size B : Nat} {lg q : Int} {bA bO bZ bS bL bB bP gS : Nat} {v u : Value} {way : List Nat} {sn : List Value} (hP : PutB w A n cap size lg q bA bO bZ bS bL bB bP gS) (hO : PutO w B bO gS v way sn) (h : NeO bA bO bZ bS bL bB bP gS v) (hl : LaterS w v u) : NeO bA bO bZ bS bL bB bP gS u := by
  have := hP.lt
  have h1 := heap_lt hO.box
  have h2 := (World.ownsRow.lt hO.seen gS rfl).2
  exact h.later hl (by omega)
theorem later_apart {w : World} {v v' : Value} (h : Apart w v v') : LaterS w v v' := by
  intro k hk
  rcases Nat.lt_or_ge k w.heap.size with h1 | h1
  · refine .inl ?_
    by_cases hv : v.ownBlock = some k
    · exact hv
    · have := h (.slice (some ⟨k, 0, none⟩) 0 0) (fun j hj => by cases hj; exact h1) (fun j hj => by cases hj; exact hv) k rfl
      exact absurd hk this
  · exact .inr h1
theorem later_mono {w w' : World} {v u : Value} (h : LaterS w' v u) (hs : w.heap.size ≤ w'.heap.size) : LaterS w v u := fun k hk => (h k hk).elim .inl fun h1 => .inr (Nat.le_trans hs h1)
theorem size_sl : (Try.prog.info? 29).map (·.size) = some 1 := by kernel_rfl
/-- what the search hands back -/
def PutPost (l : List Q4) (z : Q4 → Int) (st : Int) (r : Nat) (at' : Int) (S : Nat) (wt : Int) (way : List Nat) (B bO gS : Nat) (u : Value) (w : World) (e : Ending) (w' : World) : Prop :=
  ∃ u', Kept w w' bO gS u ∧ LaterS w u u' ∧ ((goR l z st (r + 1) at' S wt = none ∧ e = .returned (.bool false) ∧ PutO w' B bO gS u' way (rowS S)) ∨ ∃ p, goR l z st (r + 1) at' S wt = some p ∧ e = .returned (.bool true) ∧ ∃ sn, PutO w' B bO gS u' (way ++ p) sn)
theorem PutPost.none {l : List Q4} {z : Q4 → Int} {st : Int} {r : Nat} {at' : Int} {S : Nat} {wt : Int} {way : List Nat} {B bO gS : Nat} {u : Value} {w : World} {e : Ending} {w' : World} (h : PutPost l z st r at' S wt way B bO gS u w e w') (hn : goR l z st (r + 1) at' S wt = none) :
    ∃ u', Kept w w' bO gS u ∧ LaterS w u u' ∧ e = .returned (.bool false) ∧ PutO w' B bO gS u' way (rowS S) := by
  obtain ⟨u', h1, h2, ⟨_, h3, h4⟩ | ⟨p, hp, _⟩⟩ := h
  · exact ⟨u', h1, h2, h3, h4⟩
  · rw [hn] at hp; cases hp
theorem PutPost.found {l : List Q4} {z : Q4 → Int} {st : Int} {r : Nat} {at' : Int} {S : Nat} {wt : Int} {way : List Nat} {B bO gS : Nat} {u : Value} {w : World} {e : Ending} {w' : World} {p : List Nat} (h : PutPost l z st r at' S wt way B bO gS u w e w') (hn : goR l z st (r + 1) at' S wt = some p) :
    ∃ u', Kept w w' bO gS u ∧ LaterS w u u' ∧ e = .returned (.bool true) ∧ ∃ sn, PutO w' B bO gS u' (way ++ p) sn := by
  obtain ⟨u', h1, h2, ⟨h3, _⟩ | ⟨p', hp, h3, h4⟩⟩ := h
  · rw [hn] at h3; cases h3
  · rw [hn] at hp; cases hp
    exact ⟨u', h1, h2, h3, h4⟩
/-- the list and the seen nodes, wherever the list lies now -/
def SubR (w8 w' : World) (B bO gS : Nat) (u8 : Value) (way : List Nat) (sn : List Value) : Prop := ∃ u9, Kept w8 w' bO gS u8 ∧ LaterS w8 u8 u9 ∧ PutO w' B bO gS u9 way sn
theorem SubR.below {w8 w w' : World} {B bO gS : Nat} {u8 : Value} {way : List Nat} {sn : List Value} (h : SubR w8 w B bO gS u8 way sn) (hb : Below w.heap.size w w') : SubR w8 w' B bO gS u8 way sn := by
  obtain ⟨u9, h1, h2, h3⟩ := h
  exact ⟨u9, h1.trans (Kept.of_below hb bO gS _) h2, h2, h3.below hb⟩
/-- the cells that a step along an arc reads -/
def ArcAt (w : World) (gr : Nat) (x y c d : Int) : Prop := w.cell? ⟨gr, 0, none⟩ = some (.int .i64 x) ∧ w.cell? ⟨gr, 1, none⟩ = some (.int .i64 y) ∧ w.cell? ⟨gr, 2, none⟩ = some (.int .i64 c) ∧ w.cell? ⟨gr, 3, none⟩ = some (.int .i64 d)
theorem ArcAt.below {w w' : World} {gr : Nat} {x y c d : Int} (h : ArcAt w gr x y c d) (hb : Below w.heap.size w w') : ArcAt w' gr x y c d := ⟨below_at hb h.1, below_at hb h.2.1, below_at hb h.2.2.1, below_at hb h.2.2.2⟩
theorem ArcAt.kept {w w' : World} {gr bO gS : Nat} {x y c d : Int} {u : Value} (h : ArcAt w gr x y c d) (hk : Kept w w' bO gS u) (h1 : gr ≠ bO) (h2 : gr ≠ gS) (h3 : u.ownBlock ≠ some gr) : ArcAt w' gr x y c d := ⟨hk.cell h.1 h1 h2 h3, hk.cell h.2.1 h1 h2 h3, hk.cell h.2.2.1 h1 h2 h3, hk.cell h.2.2.2 h1 h2 h3⟩
theorem keepP {w8 w w' : World} {A : Option Addr} {n cap size : Nat} {lg q : Int} {bA bO bZ bS bL bB bP gS gr B : Nat} {x y c d : Int} {u8 : Value} {way : List Nat} {sn : List Value} (hb : Below w.heap.size w w') (h : ArcAt w gr x y c d ∧ PutB w A n cap size lg q bA bO bZ bS bL bB bP gS ∧ SubR w8 w B bO gS u8 way sn) :
    ArcAt w' gr x y c d ∧ PutB w' A n cap size lg q bA bO bZ bS bL bB bP gS ∧ SubR w8 w' B bO gS u8 way sn := ⟨h.1.below hb, h.2.1.below hb, h.2.2.below hb⟩
theorem keepQ {w8 w : World} {A : Option Addr} {n cap size : Nat} {lg q : Int} {bA bO bZ bS bL bB bP gS gr B : Nat} {x y c d : Int} {u8 : Value} {way : List Nat} {sn : List Value} (h : ArcAt w gr x y c d ∧ PutB w A n cap size lg q bA bO bZ bS bL bB bP gS ∧ SubR w8 w B bO gS u8 way sn) :
    (w.cell? ⟨gr, 0, none⟩ = some (.int .i64 x) ∧ w.cell? ⟨gr, 1, none⟩ = some (.int .i64 y) ∧ w.cell? ⟨gr, 2, none⟩ = some (.int .i64 c) ∧ w.cell? ⟨gr, 3, none⟩ = some (.int .i64 d)) ∧
    (w.cell? ⟨bP, 0, none⟩ = some (.func (.func 52) #[] #[.pointer (some ⟨bA, 0, none⟩), .pointer (some ⟨bO, 0, none⟩), .pointer (some ⟨bZ, 0, none⟩), .pointer (some ⟨bS, 0, none⟩), .pointer (some ⟨bL, 0, none⟩), .pointer (some ⟨bB, 0, none⟩), .pointer (some ⟨bP, 0, none⟩)]) ∧ w.cell? ⟨bL, 0, none⟩ = some (.int .i64 lg) ∧ w.cell? ⟨bB, 0, none⟩ = some (.int .i64 q)) ∧
    (ArcAt w gr x y c d ∧ PutB w A n cap size lg q bA bO bZ bS bL bB bP gS ∧ SubR w8 w B bO gS u8 way sn) := ⟨h.1, ⟨h.2.1.p, h.2.1.l, h.2.1.b⟩, h⟩
theorem keepD {w8 w : World} {A : Option Addr} {n cap size : Nat} {lg q : Int} {bA bO bZ bS bL bB bP gS gr : Nat} {x y c d : Int} {u8 : Value} {R : Value → Prop} (hd : ∃ u10, Kept w8 w bO gS u8 ∧ R u10) (hA : ArcAt w8 gr x y c d) (hP : PutB w8 A n cap size lg q bA bO bZ bS bL bB bP gS)
    (r1 : gr ≠ bO) (r2 : gr ≠ gS) (r3 : u8.ownBlock ≠ some gr) (h1 : NeP bA bZ bS bL bB bP bO) (h2 : NeP bA bZ bS bL bB bP gS) (hN : NeO bA bO bZ bS bL bB bP gS u8) :
    (w.cell? ⟨gr, 0, none⟩ = some (.int .i64 x) ∧ w.cell? ⟨gr, 1, none⟩ = some (.int .i64 y) ∧ w.cell? ⟨gr, 2, none⟩ = some (.int .i64 c) ∧ w.cell? ⟨gr, 3, none⟩ = some (.int .i64 d)) ∧
    (w.cell? ⟨bP, 0, none⟩ = some (.func (.func 52) #[] #[.pointer (some ⟨bA, 0, none⟩), .pointer (some ⟨bO, 0, none⟩), .pointer (some ⟨bZ, 0, none⟩), .pointer (some ⟨bS, 0, none⟩), .pointer (some ⟨bL, 0, none⟩), .pointer (some ⟨bB, 0, none⟩), .pointer (some ⟨bP, 0, none⟩)]) ∧ w.cell? ⟨bL, 0, none⟩ = some (.int .i64 lg) ∧ w.cell? ⟨bB, 0, none⟩ = some (.int .i64 q)) := by
  obtain ⟨u10, hk, _⟩ := hd
  have hp := hP.kept hk h1 h2 (fun q e => (hN q e).1)
  exact ⟨hA.kept hk r1 r2 r3, hp.p, hp.l, hp.b⟩
/-- the search, so many arcs more -/
def PutC (l : List Q4) (A : Option Addr) (n cap size : Nat) (lg q st : Int) (w0 : World) (bA bO bZ bS bL bB bP gS : Nat) (r : Nat) : Prop :=
  ∀ (at' : Int) (S : Nat) (wt : Int) (way : List Nat) (u : Value) (w : World), way.length + r + 1 = size → (-(240000 * (way.length : Int)) ≤ wt ∧ wt ≤ 240000 * (way.length : Int)) → Hid (Below w0.heap.size w0 w) → Hid (PutB w A n cap size lg q bA bO bZ bS bL bB bP gS) → Hid (PutO w w0.heap.size bO gS u way (rowS S)) → Hid (NeO bA bO bZ bS bL bB bP gS u) →
    Calls Try.prog 52 #[.int .i64 st, .int .i64 at', .int .i64 wt, .pointer (some ⟨bA, 0, none⟩), .pointer (some ⟨bO, 0, none⟩), .pointer (some ⟨bZ, 0, none⟩), .pointer (some ⟨bS, 0, none⟩), .pointer (some ⟨bL, 0, none⟩), .pointer (some ⟨bB, 0, none⟩), .pointer (some ⟨bP, 0, none⟩)] w
      (PutPost l (fun a => q * a.c - lg * a.d) st r at' S wt way w0.heap.size bO gS u w)
set_option maxHeartbeats 4000000 in
set_option maxRecDepth 100000 in
theorem put_step (l : List Q4) (A : Option Addr) (n cap size : Nat) (lg q st : Int) (w0 : World) (bA bO bZ bS bL bB bP gS : Nat) (hA : Rd w0 4 A n (q4s l)) (hsz : size ≤ 12) (hl : l.length = n) (n32 : n ≤ 32) (hcap : n ≤ cap) (ha : ∀ a ∈ l, arcB (12 : Int) a = true) (l0 : 0 ≤ lg) (l1 : lg ≤ 12000) (q0 : 1 ≤ q) (q1 : q ≤ 120) (st0 : 0 ≤ st)
    (h1 : NeP bA bZ bS bL bB bP bO) (h2 : NeP bA bZ bS bL bB bP gS) (h3 : bO ≠ gS) (hB : w0.heap.size ≤ bO ∧ w0.heap.size ≤ gS) (r : Nat) (IH : Hid (∀ r', r = r' + 1 → PutC l A n cap size lg q st w0 bA bO bZ bS bL bB bP gS r')) : PutC l A n cap size lg q st w0 bA bO bZ bS bL bB bP gS r := by
  intro at' S wt way u w hlen hwt HB0 HP HO HN
  have HA := hd hA
  have HAR := hd ha
  have HL := hd hl
  have lA := HP.out.a
  have WT := hd (fun a b c d w' c0 c1 d0 d1 => weight_any a b c d lg q w' c0 c1 d0 d1 (by omega) (by omega) (by omega) (by omega))
  have H1 := hd h1
  have H2 := hd h2
  have H3 := hd h3
  have HBB := hd hB
  obtain ⟨z, hz⟩ : ∃ z : Q4 → Int, z = fun a => q * a.c - lg * a.d := ⟨_, rfl⟩
  have HZ := hd hz
  have HEND := hd (fun (h : ∀ j a, l[j]? = some a → goF l z st r at' S wt j a = none) => show goR l z st (r + 1) at' S wt = none from firstF_all (fun j a ha => by rw [Nat.zero_add]; exact h j a ha))
  have HFND := hd (fun (m : Nat) (a : Q4) (p : List Nat) (h : ∀ j a, j < m → l[j]? = some a → goF l z st r at' S wt j a = none) (ha : l[m]? = some a) (hx : goF l z st r at' S wt m a = some p) => show goR l z st (r + 1) at' S wt = some p from firstF_at (m := m) (a := a) (fun j a hj ha => by rw [Nat.zero_add]; exact h j a hj ha) ha (by rw [Nat.zero_add]; exact hx))
  clear hA ha hl h1 h2 h3 hB hz
  go_enter Try.func52, Try.ntmps52
  go_wp2
  clear lA
  go_loopw [19] (fun ix wr => ∃ (k : Nat) (u' : Value), k ≤ n ∧ ix = .int .i64 k ∧ Hid (∀ j a, j < k → l[j]? = some a → goF l z st r at' S wt j a = none) ∧ Hid (Kept w wr bO gS u) ∧ Hid (LaterS w u u') ∧ Hid (PutO wr w0.heap.size bO gS u' way (rowS S))) (fun ix _ => n - (intOf ix).toNat)
  case atStart => exact ⟨0, u, by omega, rfl, hd (fun j a hj => absurd hj (by omega)), hd (Kept.refl _ _ _ _), hd (LaterS.refl _ _), HO⟩
  case round =>
    obtain ⟨k, u', hk, rfl, HF, HK, HLt, HO'⟩ := hrel
    by_cases hlt : k < n
    · have hub : ∀ k, u.ownBlock = some k → w0.heap.size ≤ k := fun k e => (World.ownsRow.lt HO.out.row k e).1
      have HB1 := hd (HK.out.below HB0.out (Nat.le_refl _) HBB.out.1 HBB.out.2 hub)
      have HP1 := hd (HP.out.kept HK.out H1.out H2.out (fun k e => (HN.out k e).1))
      obtain ⟨bb, off, x, y, c, d, rfl, hq, e0, e1, e2, e3⟩ := (HA.out.below HB1.out).q4 hlt
      have hab := HAR.out _ (List.mem_of_getElem? hq.out)
      obtain ⟨⟨x0, x1⟩, ⟨y0, y1⟩, ⟨c0, c1⟩, ⟨d0, d1⟩⟩ := arcB_iff.1 hab
      obtain ⟨zv, hzv⟩ : ∃ zv, zv = q * c - lg * d := ⟨_, rfl⟩
      have zb : -240000 ≤ zv ∧ zv ≤ 240000 := by
        have a1 : 0 ≤ q * c := Int.mul_nonneg (by omega) c0
        have a2 : q * c ≤ 120 * 1000 := Int.mul_le_mul q1 c1 c0 (by omega)
        have a3 : 0 ≤ lg * d := Int.mul_nonneg l0 d0
        have a4 : lg * d ≤ 12000 * 10 := Int.mul_le_mul l1 d1 d0 (by omega)
        omega
      have HG := hd (show goF l z st r at' S wt k ⟨x, y, c, d⟩ = (if x ≠ at' ∨ y < st then none else if r = 0 then (if y = st ∧ wt + zv = 0 then some [k] else none) else if y = st ∨ S.testBit y.toNat = true then none else (goR l z st r y (S ||| 2 ^ y.toNat) (wt + zv)).map (k :: ·)) by rw [goF, show z ⟨x, y, c, d⟩ = zv by rw [HZ.out, hzv]])
      have HSK := hd (fun (h : goF l z st r at' S wt k ⟨x, y, c, d⟩ = none) => show ∀ j a, j < k + 1 → l[j]? = some a → goF l z st r at' S wt j a = none from fun j a hj ha => by
        rcases Nat.lt_or_ge j k with h4 | h4
        · exact HF.out j a h4 ha
        · obtain rfl : j = k := by omega
          rw [hq.out] at ha
          cases ha
          exact h)
      have HW := hd (fun w' => by have h := WT.out x y c d w' c0 c1 d0 d1; rw [← hzv] at h; exact h)
      obtain ⟨gu, cu, hu', hcu⟩ : ∃ g cap, u' = .slice (some ⟨g, 0, none⟩) way.length cap ∧ way.length ≤ cap := by
        obtain ⟨g, cap, e⟩ := HO'.out.sm
        refine ⟨g, cap, e, ?_⟩
        have h := HO'.out.row.2
        rw [e] at h
        rcases h with ⟨h5, h6⟩ | ⟨g', cap', cur, h5, h6, h7, h8, _⟩
        · cases h5
        · cases h5; exact h8
      subst hu'
      have HQ := hd hq.out
      clear hab hzv hq hub
      go_upto_region 4 with fail
      obtain ⟨W, hW⟩ : ∃ W, W = wr.alloc (.cells #[.int .i64 x, .int .i64 y, .int .i64 c, .int .i64 d] 37) := ⟨_, rfl⟩
      rw [← hW]
      have k0 : W.cell? ⟨wr.heap.size, 0, none⟩ = some (.int .i64 x) := by rw [hW]; exact (World.cell?_alloc_new ..).trans rfl
      have k1 : W.cell? ⟨wr.heap.size, 1, none⟩ = some (.int .i64 y) := by rw [hW]; exact (World.cell?_alloc_new ..).trans rfl
      have k2 : W.cell? ⟨wr.heap.size, 2, none⟩ = some (.int .i64 c) := by rw [hW]; exact (World.cell?_alloc_new ..).trans rfl
      have k3 : W.cell? ⟨wr.heap.size, 3, none⟩ = some (.int .i64 d) := by rw [hW]; exact (World.cell?_alloc_new ..).trans rfl
      have hbW : Below wr.heap.size wr W := by rw [hW]; exact (Below.refl _ _).alloc (Nat.le_refl _) _
      have HKW := hd (HK.out.trans (Kept.of_below hbW bO gS _) HLt.out)
      have HPW := hd (HP1.out.below hbW)
      have HOW := hd (HO'.out.below hbW)
      have HBW := hd (below_tr hbW HB1.out)
      have HGW := hd (show wr.heap.size < W.heap.size by rw [hW]; simp)
      have HSZ := hd hbW.size
      have HRN := hd (show wr.heap.size ≠ bO ∧ wr.heap.size ≠ gS ∧ wr.heap.size ≠ gu from ⟨by have := heap_lt HO'.out.box; omega, by have := (World.ownsRow.lt HO'.out.seen gS rfl).2; omega, by have := (World.ownsRow.lt HO'.out.row gu rfl).2; omega⟩)
      clear hW hbW e0 e1 e2 e3 HP1 HO' HK HB1
      have hw12 : way.length ≤ 12 := by omega
      have oc := HOW.out.cell
      have pz := HPW.out.z
      have HNE := hd (ne_later HP.out HO.out HN.out HLt.out)
      have gbO : gu ≠ bO := (HNE.out gu rfl).2.1
      have ggS : gu ≠ gS := (HNE.out gu rfl).2.2
      by_cases c1 : x = at'
      · subst c1
        by_cases c2 : y < st
        · have E := hd (HSK.out (by rw [HG.out, if_pos (.inr c2)]))
          go_wp2
          go_roundw
          case rel => exact ⟨k + 1, _, by omega, by go_num, E, HKW, HLt, HOW⟩
          case measure => simp [intOf]; omega
        · rcases Nat.eq_zero_or_pos r with r0 | r0
          · have hs1 : (size : Int) - 1 = (way.length : Int) := by omega
            by_cases c3 : y = st
            · subst c3
              have lp := HPW.out.l
              have bp := HPW.out.b
              by_cases c4 : wt + zv = 0
              · have E := hd (HFND.out k _ [k] HF.out HQ.out (by rw [HG.out, if_neg (by omega), if_pos r0, if_pos ⟨rfl, c4⟩]))
                clear hlen r0
                go_wp2_with (first
                  | (go_at_call 51; refine (HW.out _).mono ?_; rintro e w5 ⟨rfl, hb5⟩; have HO5 := hd (HOW.out.below hb5); have oc5 := HO5.out.cell; have HK5 := hd (HKW.out.trans (Kept.of_below hb5 bO gS _) HLt.out); have HS5 := hd (Nat.le_trans HBW.out.size hb5.size); have HSX5 := hd (Nat.le_trans HKW.out.size hb5.size); clear hb5 oc)
                  | (at_builtin; go_must (refine wpList_app_int _ _ _ rfl _ _ rfl w0.heap.size way.length _ _ rfl HO5.out.row rfl _ rfl (by simp) (by omega) HS5.out ?_); intro v6 w6 ho6 hg6 hap6; obtain ⟨A6, cap6, rfl, _, _, _⟩ := own_rd ho6 (by unfold maxLen; omega); replace hg6 : w5.grownBy w6 (Value.slice (some ⟨gu, 0, none⟩) way.length cu).ownBlock := hg6; have HL6 := hd (show LaterS w5 (.slice (some ⟨gu, 0, none⟩) way.length cu) (.slice A6 (way.length + 1) cap6) from later_apart hap6); have HK6 := hd (HK5.out.trans (Kept.of_row hg6 bO gS) HLt.out); have HB6 := hd (show w6.heap[bO]? = some (.cells #[.slice (some ⟨gu, 0, none⟩) way.length cu] 29 (0, 0)) by rw [hg6.block bO (heap_lt HO5.out.box) (fun e => gbO (Option.some.inj e).symm)]; exact HO5.out.box); have HO6 := hd (show w6.ownsRow w0.heap.size 2 1 (.slice A6 (way.length + 1) cap6) (way.length + 1) ((way.map fun i : Nat => vi (i : Int)) ++ [.int .i64 (k : Int)]) from ho6); have HG6 := hd hg6; clear ho6 hg6 hap6)
                  | ((with_reducible refine wpList_store_box _ bO _ _ HB6.out size_sl 0 (.slice A6 (way.length + 1) cap6) ?_ ?_ ?_ ?_ ?_); exact rfl; exact rfl; exact rfl; exact Nat.one_pos; intro w7 hx7 hg7))
                go_ret
                have hx8 : w7.heap[bO]? = some (.cells #[.slice A6 (way.length + 1) cap6] 29 (0, 0)) := hx7
                have hl2 := HLt.out.trans (later_mono HL6.out HSX5.out) (Nat.le_refl _)
                have hne := ne_later HP.out HO.out HN.out hl2
                refine ⟨_, HK6.out.trans (Kept.of_box hg7 gS _) hl2, hl2, .inr ⟨[k], by rw [← HZ.out]; exact E.out, rfl, _, HO5.out.push HO6.out HG6.out hx8 hg7 (fun e => ggS (Option.some.inj e)) (fun e => (hne bO e).2.1 rfl) H3.out⟩⟩
              · have E := hd (HSK.out (by rw [HG.out, if_neg (by omega), if_pos r0, if_neg (fun h => c4 h.2)]))
                clear hlen r0
                go_wp2_with (go_at_call 51; refine (HW.out _).mono ?_; rintro e w5 ⟨rfl, hb5⟩)
                go_roundw
                case rel => exact ⟨k + 1, _, by omega, by go_num, E, hd (HKW.out.trans (Kept.of_below hb5 bO gS _) HLt.out), HLt, hd (HOW.out.below hb5)⟩
                case measure => simp [intOf]; omega
            · have E := hd (HSK.out (by rw [HG.out, if_neg (by omega), if_pos r0, if_neg (fun h => c3 h.1)]))
              go_wp2
              go_roundw
              case rel => exact ⟨k + 1, _, by omega, by go_num, E, HKW, HLt, HOW⟩
              case measure => simp [intOf]; omega
          · have hs1 : ¬ (way.length : Int) = (size : Int) - 1 := by omega
            by_cases c3 : y = st
            · subst c3
              have E := hd (HSK.out (by rw [HG.out, if_neg (by omega), if_neg (by omega), if_pos (.inl rfl)]))
              go_wp2
              go_roundw
              case rel => exact ⟨k + 1, _, by omega, by go_num, E, HKW, HLt, HOW⟩
              case measure => simp [intOf]; omega
            · obtain ⟨yn, rfl⟩ : ∃ yn : Nat, y = yn := ⟨y.toNat, by omega⟩
              have hy12 : yn < 12 := by omega
              have hs2 : ((way.length : Int) == (size : Int) - 1) = false := by simp [hs1]
              have c3b : ((yn : Int) == st) = false := by simp [c3]
              have ps := HPW.out.s
              have sc : W.cell? ⟨gS, yn, none⟩ = some (.bool (S.testBit yn)) := by
                rw [HOW.out.seen.cellAt yn (by omega)]
                exact rowS_get S hy12
              cases hb : S.testBit yn with
              | true =>
                rw [hb] at sc
                have E := hd (HSK.out (by rw [HG.out, if_neg (by omega), if_neg (by omega), if_pos (.inr (by rw [Int.toNat_natCast]; exact hb))]))
                clear hlen r0 hb
                go_wp2
                all_goals
                  go_roundw
                  case rel => exact ⟨k + 1, _, by omega, by go_num, E, HKW, HLt, HOW⟩
                  case measure => simp [intOf]; omega
              | false =>
                rw [hb] at sc
                have HBT := hd hb
                obtain ⟨r', rfl⟩ : ∃ r', r = r' + 1 := ⟨r - 1, by omega⟩
                have IHr := hd (IH.out r' rfl)
                have HLN2 := hd (show (way ++ [k]).length + r' + 1 = size by rw [List.length_append, List.length_singleton]; omega)
                have HWT2 := hd (show -(240000 * (((way ++ [k]).length : Nat) : Int)) ≤ wt + zv ∧ wt + zv ≤ 240000 * (((way ++ [k]).length : Nat) : Int) by rw [List.length_append, List.length_singleton]; omega)
                have wsum : IntKind.i64.wrap (wt + zv) = wt + zv := IntWalk.i64_in _ (by omega)
                have HG2 := hd (show goF l z st (r' + 1) x S wt k ⟨x, yn, c, d⟩ = (goR l z st (r' + 1) yn (S ||| 2 ^ yn) (wt + zv)).map (k :: ·) by
                  rw [HG.out, if_neg (by omega), if_neg (by omega), Int.toNat_natCast, hb, if_neg (by simp [c3])])
                have HK0 := hd (show ArcAt W wr.heap.size x yn c d from ⟨k0, k1, k2, k3⟩)
                clear hlen r0 hb HG IH
                go_wp2_with (first
                  | (at_builtin; go_must (refine wpList_app_int _ _ _ rfl _ _ rfl w0.heap.size way.length _ _ rfl HOW.out.row rfl _ rfl (by simp) (by omega) HBW.out.size ?_); intro v6 w6 ho6 hg6 hap6; obtain ⟨A6, cap6, rfl, _, _, _⟩ := own_rd ho6 (by unfold maxLen; omega); replace hg6 : W.grownBy w6 (Value.slice (some ⟨gu, 0, none⟩) way.length cu).ownBlock := hg6; have HL6 := hd (show LaterS W (.slice (some ⟨gu, 0, none⟩) way.length cu) (.slice A6 (way.length + 1) cap6) from later_apart hap6); have HK6 := hd (Kept.of_row hg6 bO gS); have HB6 := hd (show w6.heap[bO]? = some (.cells #[.slice (some ⟨gu, 0, none⟩) way.length cu] 29 (0, 0)) by rw [hg6.block bO (heap_lt HOW.out.box) (fun e => gbO (Option.some.inj e).symm)]; exact HOW.out.box); have HO6 := hd (show w6.ownsRow w0.heap.size 2 1 (.slice A6 (way.length + 1) cap6) (way.length + 1) ((way.map fun i : Nat => vi (i : Int)) ++ [.int .i64 (k : Int)]) from ho6); have HG6 := hd hg6; clear ho6 hg6 hap6 oc pz sc)
                  | ((with_reducible refine wpList_store_box _ bO _ _ HB6.out size_sl 0 (.slice A6 (way.length + 1) cap6) ?_ ?_ ?_ ?_ ?_); exact rfl; exact rfl; exact rfl; exact Nat.one_pos; intro w7 hx7 hg7; have HN6 := hd (ne_later HP.out HO.out HN.out (HLt.out.trans (later_mono HL6.out HKW.out.size) (Nat.le_refl _))); have HO7 := hd (HOW.out.push HO6.out HG6.out (show w7.heap[bO]? = some (.cells #[.slice A6 (way.length + 1) cap6] 29 (0, 0)) from hx7) hg7 (fun e => ggS (Option.some.inj e)) (fun e => (HN6.out bO e).2.1 rfl) H3.out); have HK7 := hd (HK6.out.trans (Kept.of_box hg7 gS _) HL6.out); have HP7 := hd (HPW.out.kept HK7.out H1.out H2.out (fun q e => (HNE.out q e).1)); have ps7 := HP7.out.s; have t1 := HK7.out.cell k1 HRN.out.1 HRN.out.2.1 (fun e => HRN.out.2.2 (Option.some.inj e).symm); have HS7 := HO7.out.seen; clear hx7 hg7 k1 ps)
                  | ((with_reducible refine wpList_store_own _ w0.heap.size 4 1 12 12 gS _ HS7 size_bool yn (.bool true) ?_ ?_ ?_ ?_ ?_); exact rfl; exact rfl; exact rfl; omega; intro w8 ho8 hg8; rw [rowS_on S hy12] at ho8; have HO8 := hd (HO7.out.see ho8 hg8 H3.out (fun e => (HN6.out gS e).2.2 rfl)); have HK8 := hd (HK7.out.trans (Kept.of_seen hg8 bO _) HL6.out); clear HS7 ho8 hg8 ps7 t1))
                have HP8 := hd (HPW.out.kept HK8.out H1.out H2.out (fun q e => (HNE.out q e).1))
                have HB8 := hd (HK8.out.below HBW.out (Nat.le_refl _) HBB.out.1 HBB.out.2 (fun q e => (World.ownsRow.lt HOW.out.row q e).1))
                have HA8 := hd (HK0.out.kept HK8.out HRN.out.1 HRN.out.2.1 (fun e => HRN.out.2.2 (Option.some.inj e).symm))
                obtain ⟨u8, hu8⟩ : ∃ u, u = Value.slice A6 (way.length + 1) cap6 := ⟨_, rfl⟩
                rw [← hu8] at HN6 HO8 HL6
                obtain ⟨gr, hgr⟩ : ∃ gr, gr = wr.heap.size := ⟨_, rfl⟩
                rw [← hgr] at HA8 HRN HGW ⊢
                have HR8 := hd (show gr ≠ bO ∧ gr ≠ gS ∧ ∀ u, LaterS w8 u8 u → u.ownBlock ≠ some gr from ⟨HRN.out.1, HRN.out.2.1, fun u hl e => by
                  have hW := HGW.out
                  have h8 := HK8.out.size
                  rcases hl gr e with h9 | h9
                  · rcases HL6.out gr h9 with h10 | h10
                    · exact HRN.out.2.2 (Option.some.inj h10).symm
                    · omega
                  · omega⟩)
                have HS8 := hd (show ArcAt w8 gr x yn c d ∧ PutB w8 (some ⟨bb, off, none⟩) n cap size lg q bA bO bZ bS bL bB bP gS ∧ SubR w8 w8 w0.heap.size bO gS u8 (way ++ [k]) (rowS (S ||| 2 ^ yn)) from ⟨HA8.out, HP8.out, u8, Kept.refl _ _ _ _, LaterS.refl _ _, HO8.out⟩)
                have HPRE := hd (fun (wx : World) (hs : ArcAt wx gr x yn c d ∧ PutB wx (some ⟨bb, off, none⟩) n cap size lg q bA bO bZ bS bL bB bP gS ∧ SubR w8 wx w0.heap.size bO gS u8 (way ++ [k]) (rowS (S ||| 2 ^ yn))) => by
                  obtain ⟨u9, h91, h92, h93⟩ := hs.2.2
                  exact (⟨u9, h91, h92, IHr.out (yn : Int) (S ||| 2 ^ yn) (wt + zv) (way ++ [k]) u9 wx HLN2.out HWT2.out (hd (h91.below HB8.out (Nat.le_refl _) HBB.out.1 HBB.out.2 (fun q e => (World.ownsRow.lt HO8.out.row q e).1))) (hd hs.2.1) (hd h93) (hd (ne_later HP8.out HO8.out HN6.out h92))⟩ : ∃ u9, Kept w8 wx bO gS u8 ∧ LaterS w8 u8 u9 ∧ Calls Try.prog 52 #[.int .i64 st, .int .i64 yn, .int .i64 (wt + zv), .pointer (some ⟨bA, 0, none⟩), .pointer (some ⟨bO, 0, none⟩), .pointer (some ⟨bZ, 0, none⟩), .pointer (some ⟨bS, 0, none⟩), .pointer (some ⟨bL, 0, none⟩), .pointer (some ⟨bB, 0, none⟩), .pointer (some ⟨bP, 0, none⟩)] wx (PutPost l (fun a => q * a.c - lg * a.d) st r' yn (S ||| 2 ^ yn) (wt + zv) (way ++ [k]) w0.heap.size bO gS u9 wx)))
                have HU8 := hd hu8
                have hp8 := HP8.out.p
                have hl8 := HP8.out.l
                have hb8 := HP8.out.b
                obtain ⟨z0, z1, z2, z3⟩ := HA8.out
                clear hu8 hgr k0 k2 k3
                cases hgr : goR l z st (r' + 1) yn (S ||| 2 ^ yn) (wt + zv) with
                | none =>
                  have E := hd (HSK.out (by rw [HG2.out, hgr]; rfl))
                  have HC := hd (fun (wx : World) (hs : ArcAt wx gr x yn c d ∧ PutB wx (some ⟨bb, off, none⟩) n cap size lg q bA bO bZ bS bL bB bP gS ∧ SubR w8 wx w0.heap.size bO gS u8 (way ++ [k]) (rowS (S ||| 2 ^ yn))) => by
                    obtain ⟨u9, h91, h92, hc⟩ := HPRE.out wx hs
                    exact (hc.mono (fun e w'' hp => by
                      obtain ⟨u10, g1, g2, g3, g4⟩ := hp.none (by rw [← HZ.out]; exact hgr)
                      have hN9 := ne_later HP8.out HO8.out HN6.out h92
                      exact ⟨g3, hs.1.kept g1 HR8.out.1 HR8.out.2.1 (HR8.out.2.2 u9 h92), hs.2.1.kept g1 H1.out H2.out (fun q e => (hN9 q e).1), u10, h91.trans g1 h92, h92.trans (later_mono g2 h91.size) (Nat.le_refl _), g4⟩) : Calls Try.prog 52 #[.int .i64 st, .int .i64 yn, .int .i64 (wt + zv), .pointer (some ⟨bA, 0, none⟩), .pointer (some ⟨bO, 0, none⟩), .pointer (some ⟨bZ, 0, none⟩), .pointer (some ⟨bS, 0, none⟩), .pointer (some ⟨bL, 0, none⟩), .pointer (some ⟨bB, 0, none⟩), .pointer (some ⟨bP, 0, none⟩)] wx (fun e w'' => e = .returned (.bool false) ∧ ArcAt w'' gr x yn c d ∧ PutB w'' (some ⟨bb, off, none⟩) n cap size lg q bA bO bZ bS bL bB bP gS ∧ SubR w8 w'' w0.heap.size bO gS u8 (way ++ [k]) (rowS (S ||| 2 ^ yn)))))
                  clear hgr HPRE HFND HEND
                  go_region_held3 (fun w' => (w'.cell? ⟨gr, 0, none⟩ = some (.int .i64 x) ∧ w'.cell? ⟨gr, 1, none⟩ = some (.int .i64 yn) ∧ w'.cell? ⟨gr, 2, none⟩ = some (.int .i64 c) ∧ w'.cell? ⟨gr, 3, none⟩ = some (.int .i64 d)) ∧ (w'.cell? ⟨bP, 0, none⟩ = some (.func (.func 52) #[] #[.pointer (some ⟨bA, 0, none⟩), .pointer (some ⟨bO, 0, none⟩), .pointer (some ⟨bZ, 0, none⟩), .pointer (some ⟨bS, 0, none⟩), .pointer (some ⟨bL, 0, none⟩), .pointer (some ⟨bB, 0, none⟩), .pointer (some ⟨bP, 0, none⟩)]) ∧ w'.cell? ⟨bL, 0, none⟩ = some (.int .i64 lg) ∧ w'.cell? ⟨bB, 0, none⟩ = some (.int .i64 q)) ∧ (ArcAt w' gr x yn c d ∧ PutB w' (some ⟨bb, off, none⟩) n cap size lg q bA bO bZ bS bL bB bP gS ∧ SubR w8 w' w0.heap.size bO gS u8 (way ++ [k]) (rowS (S ||| 2 ^ yn))))
                    (first | exact keepQ hS | exact keepQ (keepP h (‹(_ ∧ _ ∧ _ ∧ _) ∧ (_ ∧ _ ∧ _) ∧ _›).2.2) | exact keepQ (keepP ((Below.refl _ w8).drew) HS8.out))
                    (first | (go_at_call 51; refine (HW.out _).mono ?_; rintro e w' ⟨rfl, h⟩) | (go_at_call 52; refine (HC.out _ (‹(_ ∧ _ ∧ _ ∧ _) ∧ (_ ∧ _ ∧ _) ∧ _›).2.2).mono ?_; rintro e w' ⟨rfl, hS⟩))
                  obtain ⟨⟨y0', y1', _, _⟩, _, hA9, hP9, u9, h91, h92, h93⟩ := ‹(_ ∧ _ ∧ _ ∧ _) ∧ (_ ∧ _ ∧ _) ∧ _›
                  rename_i w9 _ _
                  have hN9 := ne_later HP8.out HO8.out HN6.out h92
                  have HK9 := hd h91
                  have HL9 := hd h92
                  have HB9 := hd (h91.below HB8.out (Nat.le_refl _) HBB.out.1 HBB.out.2 (fun q e => (World.ownsRow.lt HO8.out.row q e).1))
                  obtain ⟨g9, cap9, rfl⟩ := h93.sm
                  have hc9 : (way ++ [k]).length ≤ cap9 := by
                    have h := h93.row.2
                    rcases h with ⟨h5, h6⟩ | ⟨g', cap', cur, h5, h6, h7, h8, _⟩
                    · cases h5
                    · cases h5; exact h8
                  have HO9 := hd h93
                  have HN9 := hd hN9
                  obtain ⟨m9, hm9⟩ : ∃ m, m = (way ++ [k]).length := ⟨_, rfl⟩
                  have hm : (m9 : Int) - 1 = (way.length : Int) := by rw [hm9, List.length_append, List.length_singleton]; push_cast; omega
                  have hmn : m9 = way.length + 1 := by omega
                  rw [← hm9] at HO9 HN9 HL9 hc9
                  have HM9 := hd hm9
                  have ps9 := hP9.s
                  have HS9 := hd h93.seen
                  have HP9 := hd hP9
                  have hcz : ¬ cap9 = 0 := by omega
                  have hcw : way.length ≤ cap9 := by omega
                  have hw0 : IntKind.i64.wrap (way.length : Int) = (way.length : Int) := IntWalk.i64_in _ (by omega)
                  have HMN := hd hmn
                  clear hm9 hN9 h91 h92 h93 hA9 hP9 z0 z1 z2 z3 hp8 hl8 hb8 hmn HC
                  go_wp2_with (first
                    | ((with_reducible refine wpList_store_own _ w0.heap.size 4 1 12 12 gS _ HS9.out size_bool yn (.bool false) ?_ ?_ ?_ ?_ ?_); exact rfl; exact rfl; exact rfl; omega; intro w10 ho10 hg10; rw [rowS_off hy12 HBT.out] at ho10; have HO10 := hd (HO9.out.see ho10 hg10 H3.out (fun e => (HN9.out gS e).2.2 rfl)); have oc10 := HO10.out.cell; have HB10 := hd HO10.out.box; have HG10 := hd hg10; clear ho10 hg10 ps9 HS9)
                    | ((with_reducible refine wpList_store_box _ bO _ _ HB10.out size_sl 0 (.slice (some ⟨g9, 0, none⟩) way.length cap9) ?_ ?_ ?_ ?_ ?_); exact rfl; exact rfl; exact rfl; exact Nat.one_pos; intro w11 hx11 hg11))
                  go_roundw
                  case rel =>
                    have l1 := HLt.out.trans (later_mono HL6.out HKW.out.size) (Nat.le_refl _)
                    have k1' := HKW.out.trans HK8.out HLt.out
                    have l2 := l1.trans (later_mono HL9.out k1'.size) (Nat.le_refl _)
                    have k2' := k1'.trans HK9.out l1
                    have k3' := k2'.trans (Kept.of_seen HG10.out bO (.slice (some ⟨g9, 0, none⟩) m9 cap9)) l2
                    have k4' := k3'.trans (Kept.of_box hg11 gS (.slice (some ⟨g9, 0, none⟩) m9 cap9)) l2
                    have hp := HO10.out
                    rw [HM9.out] at hp
                    exact ⟨k + 1, .slice (some ⟨g9, 0, none⟩) way.length cap9, by omega, by go_num, E, hd k4', hd (fun q hq => l2 q hq), hd (hp.pop (show w11.heap[bO]? = some (.cells #[.slice (some ⟨g9, 0, none⟩) way.length cap9] 29 (0, 0)) from hx11) hg11 ((HN9.out g9 rfl).2.1) H3.out)⟩
                  case measure => simp [intOf]; omega
                | some p =>
                  have E := hd (HFND.out k _ (k :: p) HF.out HQ.out (by rw [HG2.out, hgr]; rfl))
                  have HC := hd (fun (wx : World) (hs : ArcAt wx gr x yn c d ∧ PutB wx (some ⟨bb, off, none⟩) n cap size lg q bA bO bZ bS bL bB bP gS ∧ SubR w8 wx w0.heap.size bO gS u8 (way ++ [k]) (rowS (S ||| 2 ^ yn))) => by
                    obtain ⟨u9, h91, h92, hc⟩ := HPRE.out wx hs
                    exact (hc.mono (fun e w'' hp => by
                      obtain ⟨u10, g1, g2, g3, sn, g4⟩ := hp.found (by rw [← HZ.out]; exact hgr)
                      exact ⟨g3, u10, h91.trans g1 h92, h92.trans (later_mono g2 h91.size) (Nat.le_refl _), sn, g4⟩) : Calls Try.prog 52 #[.int .i64 st, .int .i64 yn, .int .i64 (wt + zv), .pointer (some ⟨bA, 0, none⟩), .pointer (some ⟨bO, 0, none⟩), .pointer (some ⟨bZ, 0, none⟩), .pointer (some ⟨bS, 0, none⟩), .pointer (some ⟨bL, 0, none⟩), .pointer (some ⟨bB, 0, none⟩), .pointer (some ⟨bP, 0, none⟩)] wx (fun e w'' => e = .returned (.bool true) ∧ ∃ u10, Kept w8 w'' bO gS u8 ∧ LaterS w8 u8 u10 ∧ ∃ sn, PutO w'' w0.heap.size bO gS u10 (way ++ [k] ++ p) sn)))
                  clear hgr HPRE HFND HEND HSK
                  go_region_held3 (fun w' => (w'.cell? ⟨gr, 0, none⟩ = some (.int .i64 x) ∧ w'.cell? ⟨gr, 1, none⟩ = some (.int .i64 yn) ∧ w'.cell? ⟨gr, 2, none⟩ = some (.int .i64 c) ∧ w'.cell? ⟨gr, 3, none⟩ = some (.int .i64 d)) ∧ (w'.cell? ⟨bP, 0, none⟩ = some (.func (.func 52) #[] #[.pointer (some ⟨bA, 0, none⟩), .pointer (some ⟨bO, 0, none⟩), .pointer (some ⟨bZ, 0, none⟩), .pointer (some ⟨bS, 0, none⟩), .pointer (some ⟨bL, 0, none⟩), .pointer (some ⟨bB, 0, none⟩), .pointer (some ⟨bP, 0, none⟩)]) ∧ w'.cell? ⟨bL, 0, none⟩ = some (.int .i64 lg) ∧ w'.cell? ⟨bB, 0, none⟩ = some (.int .i64 q)))
                    (first | exact hkk | exact ⟨(keepQ hS9).1, (keepQ hS9).2.1⟩ | exact ⟨(keepQ (keepP ((Below.refl _ w8).drew) HS8.out)).1, (keepQ (keepP ((Below.refl _ w8).drew) HS8.out)).2.1⟩)
                    (first | (go_at_call 51; refine (HW.out _).mono ?_; rintro e w9 ⟨rfl, h⟩; have hS9 := keepP (below_tr h ((Below.refl _ w8).drew)) HS8.out) | (go_at_call 52; refine (HC.out _ hS9).mono ?_; rintro e w10 ⟨rfl, hdone⟩; have hkk := keepD hdone HA8.out HP8.out HR8.out.1 HR8.out.2.1 (HR8.out.2.2 u8 (LaterS.refl _ _)) H1.out H2.out HN6.out))
                  all_goals
                    go_wp2
                    go_ret
                    obtain ⟨u10, d1, d2, sn, d3⟩ := hdone
                    have l1 := HLt.out.trans (later_mono HL6.out HKW.out.size) (Nat.le_refl _)
                    have k1' := HKW.out.trans HK8.out HLt.out
                    have l2 := l1.trans (later_mono d2 k1'.size) (Nat.le_refl _)
                    rw [List.append_assoc] at d3
                    exact ⟨u10, k1'.trans d1 l1, l2, .inr ⟨k :: p, by rw [← HZ.out]; exact E.out, rfl, sn, d3⟩⟩
      · have E := hd (HSK.out (by rw [HG.out, if_pos (.inl c1)]))
        go_wp2
        go_roundw
        case rel => exact ⟨k + 1, _, by omega, by go_num, E, HKW, HLt, HOW⟩
        case measure => simp [intOf]; omega
    · have e : k = n := by omega
      subst e
      have E := hd (HEND.out (fun j a ha => HF.out j a (by have := (List.getElem?_eq_some_iff.1 ha).1; have := HL.out; omega) ha))
      go_wp2
      go_ret
      exact ⟨u', HK.out, HLt.out, .inl ⟨by rw [← HZ.out]; exact E.out, rfl, HO'.out⟩⟩
theorem put_all (l : List Q4) (A : Option Addr) (n cap size : Nat) (lg q st : Int) (w0 : World) (bA bO bZ bS bL bB bP gS : Nat) (hA : Rd w0 4 A n (q4s l)) (hsz : size ≤ 12) (hl : l.length = n) (n32 : n ≤ 32) (hcap : n ≤ cap) (ha : ∀ a ∈ l, arcB (12 : Int) a = true) (l0 : 0 ≤ lg) (l1 : lg ≤ 12000) (q0 : 1 ≤ q) (q1 : q ≤ 120) (st0 : 0 ≤ st)
    (h1 : NeP bA bZ bS bL bB bP bO) (h2 : NeP bA bZ bS bL bB bP gS) (h3 : bO ≠ gS) (hB : w0.heap.size ≤ bO ∧ w0.heap.size ≤ gS) (r : Nat) : PutC l A n cap size lg q st w0 bA bO bZ bS bL bB bP gS r := by
  induction r with
  | zero => exact put_step l A n cap size lg q st w0 bA bO bZ bS bL bB bP gS hA hsz hl n32 hcap ha l0 l1 q0 q1 st0 h1 h2 h3 hB 0 (hd (fun r' h => by omega))
  | succ r ih => exact put_step l A n cap size lg q st w0 bA bO bZ bS bL bB bP gS hA hsz hl n32 hcap ha l0 l1 q0 q1 st0 h1 h2 h3 hB (r + 1) (hd (fun r' h => by
      obtain rfl : r' = r := by omega
      exact ih))
end Go.Proofs.Ytclkgfcehmmgaaa
