/- The reference's draw of valid tasks: a contract. -/
import Derived.Test.YtdbojkanelmlkaaProg
import Derived.Test.YtdbojkanelmlkaaSrcI
import Derived.Test.YtdbojkanelmlkaaApp
import Derived.Test.YtdbojkanelmlkaaProA
import Derived.StillTailTactics
import Derived.Deep.CutRange
namespace Go.Proofs.Ytdbojkanelmlkaa
open Go.RowKit Plain
set_option linter.unusedVariables false
set_option linter.unusedSimpArgs false
attribute [local go_sem ↓] Go.wp_at_zero Go.wp_at_succ
theorem info_taskP : (Try.prog.info? 34).map (fun i => (i.zero, i.size, i.bytes)) = some (some (.agg #[.int .i64 0, .int .i64 0, .slice none 0 0, .slice none 0 0]), 4, 64) := by kernel_rfl
theorem cell_four_task (w : World) (x y z u0 : Value) (t : TypeId) : ∀ j u, [x, y, z, u0][j]? = some u → (w.alloc (.cells #[x, y, z, u0] t)).cell? ((⟨w.heap.size, 0, none⟩ : Addr).add j) = some u := by
  intro j u hj
  match j, hj with
  | 0, hj => simp at hj; subst hj; simp [Addr.add]
  | 1, hj => simp at hj; subst hj; simp [Addr.add]
  | 2, hj => simp at hj; subst hj; simp [Addr.add]
  | 3, hj => simp at hj; subst hj; simp [Addr.add]
theorem wpList_app_taskP {ops : Array Oper} {rest : List Oper} {o : Oper} {a : Act} {Q : Exit → Act → World → Prop} (w : World) (T : TypeId) (x0 x1 x2 x3 : Value) (h4 : ∀ u ∈ [x0, x1, x2, x3], u.oneCell' = true) (hgd : o.guard = none) (s x : Operand)
    (ho : o.op = .call { callee := .builtin .append, args := #[s, x], argTypes := #[25, 25] }) (base n : Nat) (v : Value) (xs : List Value) (hs : a.eval s = v) (hown : w.ownsRow base 34 4 v n xs)
    (g : Nat) (hx : a.eval x = .slice (some ⟨g, 0, none⟩) 1 1) (hg : w.heap.size = g) (hn : n ≤ 1048576) (hbase : base ≤ w.heap.size)
    (h : ∀ v' w', w'.ownsRow base 34 4 v' (n + 1) (xs ++ [x0, x1, x2, x3]) → w.grownBy w' v.ownBlock → Apart w v v' → wpList Try.prog ops Q rest (a.put o.dst v') w') :
    wpList Try.prog ops Q (o :: rest) a (w.alloc (.cells #[x0, x1, x2, x3] T)) := by
  subst hg
  obtain ⟨i0, hi, hz0, hz1, hz2⟩ := info_parts info_taskP
  refine wpList_append_own_at _ hgd s x 25 ho base 34 i0 _ 4 64 Try.underlying25 hi hz0 hz1 hz2 rfl (by decide) v n xs hs (hown.alloc _) ⟨w.heap.size, 0, none⟩ 1 1 [x0, x1, x2, x3] hx rfl (cell_four_task _ _ _ _ _ _) h4 (by unfold maxLen; omega) (by omega) (Nat.le_trans hbase (by simp)) ?_
  intro v' w' h2 h3 _ h5
  exact h v' w' h2 ((below_all ((Below.refl _ w).alloc (Nat.le_refl _) _) _).trans h3) (apart_of (by simp) h5)
theorem sl_grownP {w w' : World} {cv : Value} {n size g : Nat} {cs : List Value} (h : Sl w size cv n cs) (hne : NeSl cv g) (hg : w.grownBy w' (some g)) : Sl w' size cv n cs := sl_grownO h hne hg
theorem sbox4P {w : World} {g : Nat} {a b c d : Value} {t : TypeId} (h : SBox w g #[a, b, c, d] t) : w.cell? ⟨g, 0, none⟩ = some a ∧ w.cell? ⟨g, 1, none⟩ = some b ∧ w.cell? ⟨g, 2, none⟩ = some c ∧ w.cell? ⟨g, 3, none⟩ = some d := ⟨sbox_cell h 0, sbox_cell h 1, sbox_cell h 2, sbox_cell h 3⟩
theorem sbox_ltP {w : World} {g : Nat} {cs : Array Value} {t : TypeId} (h : SBox w g cs t) : g < w.heap.size := by
  rcases Nat.lt_or_ge g w.heap.size with h1 | h1
  · exact h1
  · rw [SBox, Array.getElem?_eq_none h1] at h; cases h
theorem grown_rowP {w w1 w2 : World} {g : Nat} {row : Option Nat} (h1 : w.grownBy w1 (some g)) (h2 : w1.grownBy w2 row) (hR : ∀ k, row = some k → w.heap.size ≤ k) : w.grownBy w2 (some g) :=
  ⟨h2.os.trans h1.os, h2.tape.trans h1.tape, h2.output.trans h1.output, Nat.le_trans h1.size h2.size, fun k hk hne => by
    rw [h2.block k (Nat.lt_of_lt_of_le hk h1.size) (by intro e; have := hR k e.symm; omega), h1.block k hk hne]⟩
theorem grown_overP {w w1 w2 : World} {g R : Nat} (h1 : w.grownBy w1 (some g)) (h2 : w1.grownBy w2 (some R)) (hR : w.heap.size ≤ R) : w.grownBy w2 (some g) :=
  grown_rowP h1 h2 (fun k e => by cases e; exact hR)
def OneP (g : Nat) (cv : Value) (A : Nat) (w : World) (r : Ending) (w' : World) : Prop := ∃ (b : Bool) (A1 : Nat) (sd1 : Int), r = .returned (.bool b) ∧ SrcBox w' g cv A1 sd1 ∧ A1 ≤ A + 1 ∧ 0 ≤ sd1 ∧ sd1 < 18446744073709551616 ∧ w.grownBy w' (some g)
set_option maxHeartbeats 400000 in
theorem oneP_any (g : Nat) (cv : Value) (xs : List Nat) (hx : ∀ x ∈ xs, x < 256) (A : Nat) (hA : A ≤ 100000) (seed : Int) (hs0 : 0 ≤ seed) (hs1 : seed < 18446744073709551616) (w : World) (hs : Sl w 1 cv xs.length (bys xs)) (hne : NeSl cv g) (hb : SrcBox w g cv A seed) (n : Nat) (n1 : 1 ≤ n) (n2 : n ≤ 200) :
    Calls Try.prog 37 #[.pointer (some ⟨g, 0, none⟩), .int .i64 n] w (OneP g cv A w) := by
  have PK := hd (pick_any g cv xs hx A hA seed hs0 hs1 w hs hne hb n n1 n2)
  clear hs hb hne hx
  go_enter Try.func37, Try.ntmps37
  go_wp2_with fail
  go_at_call 36
  refine PK.out.mono ?_
  rintro e w1 ⟨q1, A1, sd1, hq1, rfl, b1, b2, b3, b4, b5⟩
  have HB1 := hd b1
  have HG1 := hd b5
  clear b1 b5
  go_wp2
  all_goals
    go_ret
    exact ⟨_, A1, sd1, rfl, HB1.out, b2, b3, b4, HG1.out⟩
/-- a task with the values of its two slices -/
structure TI where
  t : TK
  vb : Value
  vl : Value
def tiCells (p : TI) : List Value := [.int .i64 p.t.a, .int .i64 p.t.b, p.vb, p.vl]
def tisCells (l : List TI) : List Value := l.flatMap tiCells
theorem tis_get {l : List TI} {k : Nat} {p : TI} (h : l[k]? = some p) (j : Nat) (hj : j < 4) : (tisCells l)[k * 4 + j]? = (tiCells p)[j]? := by
  induction l generalizing k with
  | nil => simp at h
  | cons x l ih =>
    have e : tisCells (x :: l) = tiCells x ++ tisCells l := by simp [tisCells]
    rw [e]
    cases k with
    | zero =>
      obtain rfl : x = p := by simpa using h
      rw [List.getElem?_append_left (by simp [tiCells]; omega)]; simp
    | succ k =>
      rw [List.getElem?_append_right (by simp [tiCells]; omega), show (k + 1) * 4 + j - (tiCells x).length = k * 4 + j by simp [tiCells]; omega]
      exact ih (by simpa using h)
/-- a task that is finished: its slices are rows of their own, away from the source and from the list -/
structure TDone (w : World) (B g : Nat) (ov : Value) (p : TI) : Prop where
  ob : w.ownsRow B 2 1 p.vb p.t.bf.length (p.t.bf.map vi)
  ol : w.ownsRow B 2 1 p.vl p.t.bf.length (p.t.lg.map vi)
  db : Dj p.vb ov
  dl : Dj p.vl ov
  gb : p.vb.ownBlock ≠ some g
  gl : p.vl.ownBlock ≠ some g
/-- what is drawn of a task: its times, and those before it -/
structure TDrawn (i : Nat) (t : TK) : Prop where
  a0 : 0 ≤ t.a ∧ t.a ≤ 6
  b0 : 0 ≤ t.b ∧ t.b ≤ 3
  ok : TaskOk i t
  l3 : ∀ k, k < t.bf.length → -3 ≤ t.lg.getD k 0 ∧ t.lg.getD k 0 ≤ 3
/-- the lists so far: the first k numbers asked -/
structure PreOk (k : Nat) (bf lg : List Int) : Prop where
  ll : lg.length = bf.length
  p0 : ∀ j, j < bf.length → 0 ≤ bf.getD j 0 ∧ bf.getD j 0 < (k : Int)
  up : ∀ j, j + 1 < bf.length → bf.getD j 0 < bf.getD (j + 1) 0
  l0 : ∀ j, j < bf.length → -3 ≤ lg.getD j 0 ∧ lg.getD j 0 ≤ 3
theorem app_get (l : List Int) (x : Int) (j : Nat) : (l ++ [x]).getD j 0 = if j < l.length then l.getD j 0 else if j = l.length then x else 0 := by
  rw [List.getD_eq_getElem?_getD, List.getElem?_append]
  by_cases h : j < l.length
  · rw [if_pos h, if_pos h, List.getD_eq_getElem?_getD]
  · rw [if_neg h, if_neg h]
    by_cases e : j = l.length
    · subst e; simp
    · rw [if_neg e, List.getElem?_eq_none (by simp; omega)]; rfl
theorem PreOk.skip {k : Nat} {bf lg : List Int} (h : PreOk k bf lg) : PreOk (k + 1) bf lg := ⟨h.ll, fun j hj => by have := h.p0 j hj; omega, h.up, h.l0⟩
theorem PreOk.app {k : Nat} {bf lg : List Int} (h : PreOk k bf lg) {y : Int} (h0 : -3 ≤ y) (h1 : y ≤ 3) : PreOk (k + 1) (bf ++ [(k : Int)]) (lg ++ [y]) := by
  refine ⟨by simp [h.ll], fun j hj => ?_, fun j hj => ?_, fun j hj => ?_⟩
  · rw [List.length_append] at hj
    simp only [List.length_singleton] at hj
    rw [app_get]
    split
    · rename_i h2; have := h.p0 j h2; omega
    · rw [if_pos (by omega)]; omega
  · rw [List.length_append] at hj
    simp only [List.length_singleton] at hj
    rw [app_get, app_get, if_pos (by omega)]
    split
    · rename_i h2; exact h.up j h2
    · rw [if_pos (by omega)]; have := h.p0 j (by omega); omega
  · rw [List.length_append] at hj
    simp only [List.length_singleton] at hj
    rw [app_get, h.ll]
    split
    · rename_i h2; exact h.l0 j h2
    · rw [if_pos (by omega)]; exact ⟨h0, h1⟩
theorem PreOk.nil : PreOk 0 [] [] := ⟨rfl, fun j hj => by simp at hj, fun j hj => by simp at hj, fun j hj => by simp at hj⟩
theorem PreOk.task {i : Nat} {bf lg : List Int} (h : PreOk i bf lg) {a b : Nat} (ha : a < 7) (hb : b < 4) : TDrawn i ⟨a, b, bf, lg⟩ :=
  ⟨⟨by simp only; omega, by simp only; omega⟩, ⟨by simp only; omega, by simp only; omega⟩, ⟨by simp only; omega, by simp only; omega, by simp only; omega, by simp only; omega, h.ll, h.p0, h.up, fun k hk => by have := h.l0 k hk; simp only; omega⟩, h.l0⟩
def TasksOut (N : Nat) (g : Nat) (w : World) (r : Ending) (w' : World) : Prop :=
  ∃ (l : List TI) (u : Value), r = .returned u ∧ l.length = N ∧ (∀ i p, l[i]? = some p → TDrawn i p.t ∧ TDone w' w.heap.size g u p) ∧ w'.ownsRow w.heap.size 34 4 u N (tisCells l) ∧ w.grownBy w' (some g)
theorem own_one {w : World} {base e size n : Nat} {v : Value} {xs : List Value} (h : w.ownsRow base e size v n xs) : v.oneCell' = true := by
  rcases h.2 with ⟨rfl, _⟩ | ⟨g, cap, cur, rfl, _⟩ <;> rfl
theorem TDone.grown {w w' : World} {B g : Nat} {ov : Value} {p : TI} (h : TDone w B g ov p) {row : Option Nat} (hg : w.grownBy w' row) (h1 : row = some g ∨ row = ov.ownBlock) : TDone w' B g ov p := by
  have key : ∀ V : Value, Dj V ov → V.ownBlock ≠ some g → (∀ k, V.ownBlock = some k → row ≠ some k) := fun V hd hn k hk e => by
    rcases h1 with h1 | h1
    · rw [h1] at e; rw [hk] at hn; exact hn (by rw [Option.some.inj e])
    · rw [h1] at e; exact hd k hk e
  refine ⟨h.ob.kept hg ?_, h.ol.kept hg ?_, h.db, h.dl, h.gb, h.gl⟩
  · rcases hb : p.vb.ownBlock with _ | k
    · exact .inl rfl
    · exact .inr (fun e => key _ h.db h.gb k hb e.symm)
  · rcases hb : p.vl.ownBlock with _ | k
    · exact .inl rfl
    · exact .inr (fun e => key _ h.dl h.gl k hb e.symm)
theorem TDone.turn {w w0 : World} {B g : Nat} {ov ov' : Value} {p : TI} (h : TDone w B g ov p) (w1 : World) (hp : ∀ k, p.vb.ownBlock = some k ∨ p.vl.ownBlock = some k → k < w0.heap.size) (ha : Apart w0 ov ov') : TDone w B g ov' p :=
  ⟨h.ob, h.ol, ha _ (fun k hk => hp k (.inl hk)) h.db, ha _ (fun k hk => hp k (.inr hk)) h.dl, h.gb, h.gl⟩
end Go.Proofs.Ytdbojkanelmlkaa
