/- General words of this proof: a slice that reads as a list, a row of the call's own, and how both are kept. No statement of the program stands here. -/
import Derived.WalkKit
import Derived.WalkSpells
import Derived.WalkLawsBesides
import Derived.WalkSmall
import Derived.Deep.RegionHeld3
import Derived.Deep.DrawnRows
import Derived.Deep.QuietTactic
import Derived.Deep.AppendLies
import Derived.Laws.AppendOwnNone
import Derived.BigQuiet
import Derived.Handy
import Derived.OneCell
namespace Go.Proofs.Ytkaopdpdfbkchaa
open Go.RowKit

/-- A fact put behind a name, away from the walk. -/
theorem hd {p : Prop} (h : p) : Hid p := h

/-- an int64 as a value -/
def vi (n : Int) : Value := .int .i64 n

/-! ## results -/
theorem ret_bool {a b : Bool} (h : a = b) : Ending.returned (.bool a) = .returned (.bool b) := by rw [h]
theorem ret_i64 {a b : Int} (h : a = b) : Ending.returned (.int .i64 a) = .returned (.int .i64 b) := by rw [h]

/-! ## what stays when memory is added -/
theorem below_at {w w' : World} (h : Below w.heap.size w w') {a : Addr} {v : Value} (hc : w.cell? a = some v) : w'.cell? a = some v := (h.cell (block_lt_of_cell hc)).trans hc
theorem below_tr {w0 w w' : World} (h : Below w.heap.size w w') (hc : Below w0.heap.size w0 w) : Below w0.heap.size w0 w' := hc.trans (h.mono hc.size)
theorem below_all {w w' : World} (h : Below w.heap.size w w') (row : Option Nat) : w.grownBy w' row := ⟨h.os, h.tape, h.output, h.size, fun i hi _ => h.block i hi⟩
theorem below_none {w w' : World} (h : w.grownBy w' none) : Below w.heap.size w w' := ⟨h.os, h.tape, h.output, h.size, fun i hi => h.block i hi (by simp)⟩
/-- one row of the call's own has turned: below it nothing has -/
theorem below_row {w0 w w' : World} {row : Option Nat} (h : w.grownBy w' row) (hc : Below w0.heap.size w0 w) (hr : ∀ k, row = some k → w0.heap.size ≤ k) : Below w0.heap.size w0 w' := hc.grown h hc.size hr
theorem drew2 (w : World) (m n : Nat) : ∃ k, (w.drewN m).drewN n = w.drewN k := ⟨_, World.drewN_drewN _ _ _⟩
theorem heap_alloc_get (w : World) (o : Obj) (k : Nat) : (w.alloc o).heap[k]? = if k = w.heap.size then some o else w.heap[k]? := by
  show (w.heap.push o)[k]? = _
  rw [Array.getElem?_push]

/-! ## slices that are read -/
/-- The slice '.slice A n _' reads xs, 'size' cells an element. -/
def Rd (w : World) (size : Nat) (A : Option Addr) (n : Nat) (xs : List Value) : Prop :=
  xs.length = n * size ∧ n ≤ maxLen ∧ (0 < n → ∃ b off, A = some ⟨b, off, none⟩ ∧ ∀ j u, xs[j]? = some u → w.cell? ⟨b, off + j, none⟩ = some u)
/-- A slice value that reads xs. -/
def Sl (w : World) (size : Nat) (v : Value) (n : Nat) (xs : List Value) : Prop := ∃ A cap, v = .slice A n cap ∧ n ≤ cap ∧ Rd w size A n xs

theorem Rd.keep {w w' : World} {size n : Nat} {A : Option Addr} {xs : List Value} (h : Rd w size A n xs) (hk : ∀ (a : Addr) (v : Value), A.map (·.block) = some a.block → w.cell? a = some v → w'.cell? a = some v) : Rd w' size A n xs := by
  refine ⟨h.1, h.2.1, fun hn => ?_⟩
  obtain ⟨b, off, rfl, hc⟩ := h.2.2 hn
  exact ⟨b, off, rfl, fun j u hu => hk _ _ rfl (hc j u hu)⟩
theorem Rd.below {w w' : World} {size n : Nat} {A : Option Addr} {xs : List Value} (h : Rd w size A n xs) (hb : Below w.heap.size w w') : Rd w' size A n xs :=
  h.keep fun _ _ _ hc => below_at hb hc
theorem Sl.below {w w' : World} {size n : Nat} {v : Value} {xs : List Value} (h : Sl w size v n xs) (hb : Below w.heap.size w w') : Sl w' size v n xs := by
  obtain ⟨A, cap, rfl, hn, hr⟩ := h
  exact ⟨A, cap, rfl, hn, hr.below hb⟩
theorem Rd.grown {w w' : World} {size n : Nat} {A : Option Addr} {xs : List Value} {row : Option Nat} (h : Rd w size A n xs) (hb : w.grownBy w' row) (hne : A.map (·.block) ≠ row ∨ row = none) : Rd w' size A n xs :=
  h.keep fun a v ha hc => hb.cell hc (by rcases hne with hne | hne; exact fun e => hne (ha.trans e); simp [hne])
theorem Rd.drewN {w : World} {size n : Nat} {A : Option Addr} {xs : List Value} (h : Rd w size A n xs) (k : Nat) : Rd (w.drewN k) size A n xs := h
/-- element k of a slice of int64 -/
theorem Rd.int {w : World} {A : Option Addr} {n : Nat} {xs : List Int} (h : Rd w 1 A n (xs.map vi)) {k : Nat} (hk : k < n) : ∃ b off, A = some ⟨b, off, none⟩ ∧ w.cell? ⟨b, off + k, none⟩ = some (.int .i64 (xs.getD k 0)) := by
  obtain ⟨h1, _, h2⟩ := h
  obtain ⟨b, off, hA, hc⟩ := h2 (by omega)
  refine ⟨b, off, hA, hc k _ ?_⟩
  have hl : k < xs.length := by simp at h1; omega
  simp [hl, vi, List.getD_eq_getElem?_getD]
theorem Rd.intLen {w : World} {A : Option Addr} {n : Nat} {xs : List Int} (h : Rd w 1 A n (xs.map vi)) : xs.length = n := by
  have := h.1; simpa using this

/-! ## rows of the call's own -/
theorem own_rd {w : World} {base size n : Nat} {e : TypeId} {v : Value} {xs : List Value} (h : w.ownsRow base e size v n xs) (hm : n ≤ maxLen) :
    ∃ A cap, v = .slice A n cap ∧ n ≤ cap ∧ Rd w size A n xs ∧ ((A = none ∧ cap = 0) ∨ ∃ g, A = some ⟨g, 0, none⟩ ∧ base ≤ g ∧ g < w.heap.size) := by
  have hl := h.1
  have hcells := fun g => World.ownsRow.cells h (g := g)
  have hlt := World.ownsRow.lt h
  rcases h.2 with ⟨rfl, rfl⟩ | ⟨g, cap, cur, rfl, hb, hg, hn, _⟩
  · exact ⟨none, 0, rfl, by omega, ⟨hl, hm, by omega⟩, .inl ⟨rfl, rfl⟩⟩
  · refine ⟨_, cap, rfl, hn, ⟨hl, hm, fun _ => ⟨g, 0, rfl, fun j u hu => ?_⟩⟩, .inr ⟨g, rfl, hlt g rfl⟩⟩
    have := hcells g rfl j u hu
    unfold Addr.add at this
    by_cases hj : j = 0 <;> simpa [hj] using this
theorem own_sl {w : World} {base size n : Nat} {e : TypeId} {v : Value} {xs : List Value} (h : w.ownsRow base e size v n xs) (hm : n ≤ maxLen) : Sl w size v n xs := by
  obtain ⟨A, cap, hv, hn, hr, _⟩ := own_rd h hm
  exact ⟨A, cap, hv, hn, hr⟩
theorem own_below {w w' : World} {base size n : Nat} {e : TypeId} {v : Value} {xs : List Value} (h : w.ownsRow base e size v n xs) (hb : Below w.heap.size w w') : w'.ownsRow base e size v n xs :=
  h.kept (below_all hb none) (by cases v.ownBlock <;> simp)
theorem own_mono {w : World} {base base' size n : Nat} {e : TypeId} {v : Value} {xs : List Value} (h : w.ownsRow base e size v n xs) (hb : base' ≤ base) : w.ownsRow base' e size v n xs := by
  refine ⟨h.1, ?_⟩
  rcases h.2 with h | ⟨g, cap, cur, hv, hg, r⟩
  · exact .inl h
  · exact .inr ⟨g, cap, cur, hv, by omega, r⟩
/-- a row made later lies elsewhere -/
theorem own_ne {w w' : World} {b1 b2 s1 s2 n1 n2 : Nat} {e1 e2 : TypeId} {v1 v2 : Value} {x1 x2 : List Value} (h1 : w.ownsRow b1 e1 s1 v1 n1 x1) (h2 : w'.ownsRow b2 e2 s2 v2 n2 x2) (hb : w.heap.size ≤ b2) : v1.ownBlock = none ∨ v1.ownBlock ≠ v2.ownBlock := by
  cases e : v1.ownBlock with
  | none => exact .inl rfl
  | some k =>
    refine .inr fun he => ?_
    have := (World.ownsRow.lt h1 k e).2
    have := (World.ownsRow.lt h2 k he.symm).1
    omega

/-- two rows of the call's own that share no block -/
def Dj (u v : Value) : Prop := ∀ k, u.ownBlock = some k → v.ownBlock ≠ some k
theorem dj_symm {u v : Value} (h : Dj u v) : Dj v u := fun k h1 h2 => h k h2 h1
theorem dj_new {w w' : World} {b1 s1 s2 n1 n2 : Nat} {e1 e2 : TypeId} {v1 v2 : Value} {x1 x2 : List Value} (h1 : w.ownsRow b1 e1 s1 v1 n1 x1) (h2 : w'.ownsRow w.heap.size e2 s2 v2 n2 x2) : Dj v1 v2 := by
  intro k e he
  have := (World.ownsRow.lt h1 k e).2
  have := (World.ownsRow.lt h2 k he).1
  omega
theorem own_kept {w w' : World} {base size n : Nat} {e : TypeId} {v u : Value} {xs : List Value} (h : w.ownsRow base e size v n xs) (hg : w.grownBy w' u.ownBlock) (d : Dj v u) : w'.ownsRow base e size v n xs := by
  refine h.kept hg ?_
  cases hv : v.ownBlock with
  | none => exact .inl rfl
  | some k => exact .inr fun he => d k hv he.symm
theorem own_row {w : World} {base b size n : Nat} {e : TypeId} {v : Value} {xs : List Value} (h : w.ownsRow base e size v n xs) (hb : b ≤ base) : ∀ k, v.ownBlock = some k → b ≤ k :=
  fun k hk => Nat.le_trans hb (World.ownsRow.lt h k hk).1
theorem own_some {w : World} {base size n g cap : Nat} {e : TypeId} {xs : List Value} (h : w.ownsRow base e size (.slice (some ⟨g, 0, none⟩) n cap) n xs) {j : Nat} (hj : j < n * size) : ∃ z, w.cell? ⟨g, j, none⟩ = some z := by
  rw [h.cellAt j hj]
  exact ⟨_, List.getElem?_eq_getElem (by have := h.1; omega)⟩
theorem made_same (zs : Array Value) (z : Value) (hz : 0 < zs.size) (h : ∀ i, i < zs.size → zs[i]? = some z) (n : Nat) : (madeCells zs n).toList = List.replicate n z := by
  apply List.ext_getElem?
  intro j
  by_cases hj : j < n
  · have hm := Nat.mod_lt j hz
    have := h (j % zs.size) hm
    simp only [madeCells, Array.toList_map, Array.toList_range, List.getElem?_map, List.getElem?_range hj, Option.map_some, List.getElem?_replicate, if_pos hj, Option.some.injEq]
    rw [getElem!_pos zs _ hm]
    rw [Array.getElem?_eq_getElem hm] at this
    exact Option.some.inj this
  · simp [madeCells, hj]
theorem size_le {n : Nat} (h : n ≤ 1048576) : n ≤ maxLen := by unfold maxLen; omega
end Go.Proofs.Ytkaopdpdfbkchaa
