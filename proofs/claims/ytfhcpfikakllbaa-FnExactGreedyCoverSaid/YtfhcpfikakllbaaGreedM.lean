/- GreedyCover: what both sides hand back, and the rows that they keep. -/
import Derived.Test.YtfhcpfikakllbaaProg
import Derived.Test.YtfhcpfikakllbaaGreedT
import Derived.Test.YtfhcpfikakllbaaNextM
import Derived.Test.YtfhcpfikakllbaaStrS
import Derived.Test.YtfhcpfikakllbaaApp
import Derived.Test.YtfhcpfikakllbaaStoreOwn
import Derived.Test.YtfhcpfikakllbaaMaxMin
import Derived.Test.YtfhcpfikakllbaaCopy
import Derived.Test.YtfhcpfikakllbaaNum
import Derived.Sort.AtCall
namespace Go.Proofs.Ytfhcpfikakllbaa
open Go.RowKit Plain
set_option linter.unusedVariables false
set_option linter.unusedSimpArgs false
attribute [local go_sem ↓] Go.wp_at_zero Go.wp_at_succ

/-- two slices and a bool -/
def Out3 (ts : List ByteArray) (cs : List Int) (b : Bool) (w : World) (r : Ending) (w' : World) : Prop :=
  ∃ u v, r = .returned (.tuple #[u, v, .bool b]) ∧ w'.ownsRow w.heap.size 9 1 u ts.length (strs ts) ∧ w'.ownsRow w.heap.size 2 1 v cs.length (cs.map vi) ∧ Dj u v ∧ Below w.heap.size w w'
def okG (r : SR) (ns : List Int) : Bool := validS r && manyIn ns r.slots r.slots 0 100
def runG (r : SR) (ns : List Int) : Option (Nat → Int) := greedyF (allF r 64) ns.length 2401 (fun _ => 0) (fun j => ns.getD j 0)
def gM (r : SR) (ns : List Int) : List ByteArray × List Int × Bool :=
  if okG r ns then match runG r ns with
    | none => ([], [], false)
    | some c => (selS (allF r 64) c (allF r 64).length, selC c (allF r 64).length, true)
  else ([], [], false)
theorem gM_no {r : SR} {ns : List Int} (h : okG r ns = false) : gM r ns = ([], [], false) := by rw [gM, h]; rfl
theorem gM_none {r : SR} {ns : List Int} (h : okG r ns = true) (h2 : runG r ns = none) : gM r ns = ([], [], false) := by rw [gM, h, h2]; rfl
theorem gM_some {r : SR} {ns : List Int} {c : Nat → Int} (h : okG r ns = true) (h2 : runG r ns = some c) : gM r ns = (selS (allF r 64) c (allF r 64).length, selC c (allF r 64).length, true) := by rw [gM, h, h2]; rfl
theorem allF_len (r : SR) (n : Nat) : (allF r n).length ≤ n := fill_len
theorem allF_size {r : SR} {n : Nat} (h : 0 ≤ r.slots) {x : ByteArray} (hx : x ∈ allF r n) : x.size = r.slots.toNat := by
  unfold allF fillS at hx
  have := List.mem_of_mem_take hx
  rw [List.nil_append] at this
  have := listS_size _ _ _ _ _ this
  have e : (ByteArray.mk #[]).size = 0 := rfl
  omega
/-- the rows that are kept: all shifts, how often each is taken, what is wanted -/
structure GRows (w : World) (B S N : Nat) (u uc uf : Value) (ts : List ByteArray) (c f : Nat → Int) : Prop where
  rt : w.ownsRow B 9 1 u N (strs ts)
  rc : w.ownsRow B 2 1 uc N ((lst c N).map vi)
  rf : w.ownsRow B 2 1 uf S ((lst f S).map vi)
structure GDj (u uc uf : Value) : Prop where
  d1 : Dj u uc
  d2 : Dj u uf
  d3 : Dj uc uf
theorem GRows.below {w w' : World} {B S N : Nat} {u uc uf : Value} {ts : List ByteArray} {c f : Nat → Int} (h : GRows w B S N u uc uf ts c f) (hb : Below w.heap.size w w') : GRows w' B S N u uc uf ts c f := ⟨own_below h.rt hb, own_below h.rc hb, own_below h.rf hb⟩
theorem GRows.setc {w w' : World} {B S N : Nat} {u uc uf : Value} {ts : List ByteArray} {c f c' : Nat → Int} (h : GRows w B S N u uc uf ts c f) (d : GDj u uc uf) (h2 : w'.ownsRow B 2 1 uc N ((lst c' N).map vi)) (hg : w.grownBy w' uc.ownBlock) : GRows w' B S N u uc uf ts c' f := ⟨own_kept h.rt hg d.d1, h2, own_kept h.rf hg (dj_symm d.d3)⟩
theorem GRows.setf {w w' : World} {B S N : Nat} {u uc uf : Value} {ts : List ByteArray} {c f f' : Nat → Int} (h : GRows w B S N u uc uf ts c f) (d : GDj u uc uf) (h2 : w'.ownsRow B 2 1 uf S ((lst f' S).map vi)) (hg : w.grownBy w' uf.ownBlock) : GRows w' B S N u uc uf ts c f' := ⟨own_kept h.rt hg d.d2, own_kept h.rc hg d.d3, h2⟩
theorem GRows.grown {w w' : World} {B S N : Nat} {u uc uf v : Value} {ts : List ByteArray} {c f : Nat → Int} (h : GRows w B S N u uc uf ts c f) (hg : w.grownBy w' v.ownBlock) (e1 : Dj u v) (e2 : Dj uc v) (e3 : Dj uf v) : GRows w' B S N u uc uf ts c f := ⟨own_kept h.rt hg e1, own_kept h.rc hg e2, own_kept h.rf hg e3⟩
/-- the cell of one number of a row -/
theorem row_cell {w : World} {B n cap g : Nat} {f : Nat → Int} (h : w.ownsRow B 2 1 (.slice (some ⟨g, 0, none⟩) n cap) n ((lst f n).map vi)) {k : Nat} (hk : k < n) : w.cell? ⟨g, k, none⟩ = some (.int .i64 (f k)) := by
  rw [h.cellAt k (by omega), List.getElem?_map, lst_get hk]; rfl
/-- the cell of one text -/
theorem text_cell {w : World} {B N cap : Nat} {A : Option Addr} {ts : List ByteArray} (h : w.ownsRow B 9 1 (.slice A N cap) N (strs ts)) (hN : N ≤ maxLen) {k : Nat} (hk : k < N) : ∃ g, A = some ⟨g, 0, none⟩ ∧ w.cell? ⟨g, k, none⟩ = some (.string (ts.getD k ⟨#[]⟩)) := by
  obtain ⟨A', cap', he, hc, hr, hA⟩ := own_rd h hN
  cases he
  obtain ⟨b, off, s, rfl, hs, hcell⟩ := hr.str hk
  rcases hA with ⟨h0, _⟩ | ⟨g, h0, _, _⟩
  · cases h0
  · cases h0
    refine ⟨_, rfl, ?_⟩
    rw [List.getD_eq_getElem?_getD, hs.out]
    simpa using hcell
/-- a letter of a text -/
theorem let_at {t : ByteArray} {S k : Nat} (ht : t.size = S) (hk : k < S) : ∃ q : Nat, (∀ h : k < t.size, (t[k]'h).toNat = q) ∧ isW t k = decide (q = 119) := by
  refine ⟨(t[k]'(by omega)).toNat, fun h => rfl, ?_⟩
  unfold isW
  rw [cod_at (by omega : k < t.size)]
  congr 1
  exact propext ⟨fun h => by omega, fun h => by omega⟩
theorem set_row {f : Nat → Int} {n k : Nat} {v : Int} (g : Nat → Int) (hg : ∀ j, j < n → g j = if j = k then v else f j) : ((lst f n).map vi).set k (.int .i64 v) = (lst g n).map vi := by
  rw [← lst_set g hg, List.map_set]; rfl
theorem set_add {c : Nat → Int} {n b : Nat} : ((lst c n).map vi).set b (.int .i64 (c b + 1)) = (lst (addF b c) n).map vi :=
  set_row _ fun j _ => by
    simp only [addF]
    split
    · rename_i h; rw [h]
    · rfl
theorem set_sub {t : ByteArray} {f : Nat → Int} {n k : Nat} (hw : isW t k = true) : ((lst (subF t f k) n).map vi).set k (.int .i64 (f k - 1)) = (lst (subF t f (k + 1)) n).map vi :=
  set_row _ fun j _ => by
    simp only [subF]
    by_cases e : j = k
    · subst e; simp [hw]
    · rw [if_neg e]
      by_cases h : j < k
      · simp [h, show j < k + 1 by omega]
      · simp [h, show ¬ j < k + 1 by omega]
theorem sub_skip {t : ByteArray} {f : Nat → Int} {k : Nat} (hw : isW t k = false) : subF t f (k + 1) = subF t f k := by
  funext j
  simp only [subF]
  by_cases e : j = k
  · subst e; simp [hw]
  · have : (decide (j < k + 1)) = decide (j < k) := by congr 1; exact propext ⟨fun _ => by omega, fun _ => by omega⟩
    rw [this]
theorem sub_at {t : ByteArray} {f : Nat → Int} {k : Nat} : subF t f k k = f k := by simp [subF]
theorem set_subG {t : ByteArray} {f : Nat → Int} {n k : Nat} (hw : isW t k = true) (h0 : 0 < f k) : ((lst (subG t f k) n).map vi).set k (.int .i64 (f k - 1)) = (lst (subG t f (k + 1)) n).map vi :=
  set_row _ fun j _ => by
    simp only [subG]
    by_cases e : j = k
    · subst e; simp [hw, h0]
    · rw [if_neg e]
      by_cases h : j < k
      · simp [h, show j < k + 1 by omega]
      · simp [h, show ¬ j < k + 1 by omega]
theorem subG_skip {t : ByteArray} {f : Nat → Int} {k : Nat} (hw : isW t k = false ∨ ¬ 0 < f k) : subG t f (k + 1) = subG t f k := by
  funext j
  simp only [subG]
  by_cases e : j = k
  · subst e
    rcases hw with hw | hw
    · simp [hw]
    · simp [hw]
  · have : (decide (j < k + 1)) = decide (j < k) := by congr 1; exact propext ⟨fun _ => by omega, fun _ => by omega⟩
    rw [this]
theorem subG_at {t : ByteArray} {f : Nat → Int} {k : Nat} : subG t f k k = f k := by simp [subG]
theorem best_yes {ts : List ByteArray} {f : Nat → Int} {S i : Nat} (h : (bestT ts f S i).2 < gainT (ts.getD i ⟨#[]⟩) f S) : bestT ts f S (i + 1) = ((i : Int), gainT (ts.getD i ⟨#[]⟩) f S) := by rw [bestT, if_pos h]
theorem best_no {ts : List ByteArray} {f : Nat → Int} {S i : Nat} (h : ¬ (bestT ts f S i).2 < gainT (ts.getD i ⟨#[]⟩) f S) : bestT ts f S (i + 1) = bestT ts f S i := by rw [bestT, if_neg h]
theorem gain_yes {t : ByteArray} {f : Nat → Int} {k : Nat} (h : 0 < f k) (hw : isW t k = true) : gainT t f (k + 1) = gainT t f k + 1 := by rw [gainT, hw, decide_eq_true h]; rfl
theorem gain_no {t : ByteArray} {f : Nat → Int} {k : Nat} (h : ¬ 0 < f k ∨ isW t k = false) : gainT t f (k + 1) = gainT t f k := by
  rw [gainT]
  rcases h with h | h
  · rw [decide_eq_false h]; rfl
  · rw [h, Bool.and_false]; rfl
/-- all that is wanted, read off the memory -/
def sumW (w : World) (g S : Nat) : Int := sumF (fun j => match w.cell? ⟨g, j, none⟩ with | some (.int _ z) => z | _ => 0) S
theorem sumF_congr {f g : Nat → Int} (S : Nat) (h : ∀ j, j < S → f j = g j) : sumF f S = sumF g S := by
  induction S with
  | zero => rfl
  | succ S ih => rw [sumF, sumF, ih (fun j hj => h j (by omega)), h S (by omega)]
theorem sumW_row {w : World} {B n cap g : Nat} {f : Nat → Int} (h : w.ownsRow B 2 1 (.slice (some ⟨g, 0, none⟩) n cap) n ((lst f n).map vi)) : sumW w g n = sumF f n :=
  sumF_congr n fun j hj => by rw [row_cell h hj]
/-- what is handed back, as far as it has come -/
structure GSel (W : World) (B : Nat) (u uc uf o1 o2 : Value) (ts : List ByteArray) (c : Nat → Int) (i : Nat) : Prop where
  s1 : W.ownsRow B 9 1 o1 (selC c i).length (strs (selS ts c i))
  s2 : W.ownsRow B 2 1 o2 (selC c i).length ((selC c i).map vi)
  d : Dj o1 o2
  a1 : Dj u o1
  a2 : Dj uc o1
  a3 : Dj uf o1
  b1 : Dj u o2
  b2 : Dj uc o2
  b3 : Dj uf o2
theorem gsel_start {w W : World} {B S N : Nat} {u uc uf : Value} {ts : List ByteArray} {c f : Nat → Int} (h : GRows W B S N u uc uf ts c f) (hB : B ≤ W.heap.size) :
    GSel ((W.alloc (.cells #[] 9)).alloc (.cells #[] 2)) B u uc uf (.slice (some ⟨W.heap.size, 0, none⟩) 0 0) (.slice (some ⟨W.heap.size + 1, 0, none⟩) 0 0) ts c 0 := by
  have m1 := World.ownsRow_made (size := 1) W #[] 0 (Nat.le_refl _) (by unfold maxLen; omega) rfl (e := 9)
  have hb := (Below.refl (W.alloc (.cells #[] 9)).heap.size (W.alloc (.cells #[] 9))).alloc (Nat.le_refl _) (.cells #[] 2)
  have hb0 := (Below.refl W.heap.size W).alloc (Nat.le_refl _) (.cells #[] 9)
  have m2 := World.ownsRow_made (size := 1) (W.alloc (.cells #[] 9)) #[] 0 (Nat.le_refl _) (by unfold maxLen; omega) rfl (e := 2)
  have hg := h.below hb0
  refine ⟨own_mono (own_below m1 hb) hB, ?_, ?_, dj_new h.rt m1, dj_new h.rc m1, dj_new h.rf m1, ?_, ?_, ?_⟩
  · have := own_mono m2 (Nat.le_trans hB hb0.size)
    simpa [selC] using this
  · simpa using dj_new m1 m2
  · simpa using dj_new hg.rt m2
  · simpa using dj_new hg.rc m2
  · simpa using dj_new hg.rf m2
theorem gsel_skip {W : World} {B : Nat} {u uc uf o1 o2 : Value} {ts : List ByteArray} {c : Nat → Int} {i : Nat} (h : GSel W B u uc uf o1 o2 ts c i) (hc : ¬ 0 < c i) : GSel W B u uc uf o1 o2 ts c (i + 1) := by
  have e1 : selS ts c (i + 1) = selS ts c i := by rw [selS, if_neg hc, List.append_nil]
  have e2 : selC c (i + 1) = selC c i := by rw [selC, if_neg hc, List.append_nil]
  exact ⟨by rw [e1, e2]; exact h.s1, by rw [e2]; exact h.s2, h.d, h.a1, h.a2, h.a3, h.b1, h.b2, h.b3⟩
theorem gsel_take {W W1 W2 : World} {B S N : Nat} {u uc uf o1 o2 p1 p2 : Value} {ts : List ByteArray} {c f : Nat → Int} {i : Nat} (h : GSel W B u uc uf o1 o2 ts c i) (hr : GRows W B S N u uc uf ts c f) (hc : 0 < c i)
    (k1 : W1.ownsRow B 9 1 p1 ((selC c i).length + 1) (strs (selS ts c i) ++ [.string (ts.getD i ⟨#[]⟩)])) (g1 : W.grownBy W1 o1.ownBlock) (h1 : Apart W o1 p1)
    (k2 : W2.ownsRow B 2 1 p2 ((selC c i).length + 1) ((selC c i).map vi ++ [.int .i64 (c i)])) (g2 : W1.grownBy W2 o2.ownBlock) (h2 : Apart W1 o2 p2) :
    GSel W2 B u uc uf p1 p2 ts c (i + 1) ∧ GRows W2 B S N u uc uf ts c f := by
  have e1 : selS ts c (i + 1) = selS ts c i ++ [ts.getD i ⟨#[]⟩] := by rw [selS, if_pos hc]
  have e2 : selC c (i + 1) = selC c i ++ [c i] := by rw [selC, if_pos hc]
  have x1 := h1 u (own_in hr.rt) h.a1
  have x2 := h1 uc (own_in hr.rc) h.a2
  have x3 := h1 uf (own_in hr.rf) h.a3
  have x4 := h1 o2 (own_in h.s2) (dj_symm h.d)
  have r1 := hr.grown g1 h.a1 h.a2 h.a3
  have y1 := h2 u (own_in r1.rt) h.b1
  have y2 := h2 uc (own_in r1.rc) h.b2
  have y3 := h2 uf (own_in r1.rf) h.b3
  have y4 := h2 p1 (own_in k1) (dj_symm x4)
  refine ⟨⟨?_, ?_, y4, x1, x2, x3, y1, y2, y3⟩, r1.grown g2 h.b1 h.b2 h.b3⟩
  · rw [e1, e2, List.length_append, ← strs_app]
    exact own_kept k1 g2 (dj_symm x4)
  · rw [e2, List.length_append, List.map_append]
    exact k2
theorem max_iff {f : Nat → Int} {S : Nat} (hS : 0 < S) : 0 < maxTo (lst f S) S ↔ 0 < sumF f S := by
  have hg : ∀ k, k < S → (lst f S).getD k 0 = f k := fun k hk => by rw [List.getD_eq_getElem?_getD, lst_get hk]; rfl
  have key : ∀ k, k ≤ S → (0 < maxTo (lst f S) k ↔ (0 < f 0 ∨ ∃ j, j < k ∧ 0 < f j)) := by
    intro k
    induction k with
    | zero => intro _; rw [maxTo, hg 0 hS]; exact ⟨fun h => .inl h, fun h => h.elim id (fun ⟨j, hj, _⟩ => absurd hj (by omega))⟩
    | succ k ih =>
      intro hk
      rw [maxTo, hg k (by omega)]
      have i := ih (by omega)
      constructor
      · intro h
        by_cases h1 : 0 < maxTo (lst f S) k
        · rcases i.1 h1 with h2 | ⟨j, hj, h2⟩
          · exact .inl h2
          · exact .inr ⟨j, by omega, h2⟩
        · exact .inr ⟨k, by omega, by omega⟩
      · intro h
        have : 0 < maxTo (lst f S) k ∨ 0 < f k := by
          rcases h with h2 | ⟨j, hj, h2⟩
          · exact .inl (i.2 (.inl h2))
          · by_cases e : j = k
            · subst e; exact .inr h2
            · exact .inl (i.2 (.inr ⟨j, by omega, h2⟩))
        omega
  rw [key S (Nat.le_refl _), sum_iff]
  constructor
  · rintro (h | h)
    · exact ⟨0, hS, h⟩
    · exact h
  · exact .inr
end Go.Proofs.Ytfhcpfikakllbaa
