/- The table of batches in memory. -/
import Derived.Test.YtkdjeneogclocaaBatA
import Derived.Test.YtkdjeneogclocaaChgB
import Derived.Laws.AppendOwnNone
namespace Go.Proofs.Ytkdjeneogclocaa
open Go.RowKit Plain
set_option linter.unusedVariables false
set_option linter.unusedSimpArgs false
theorem info_bat : (Try.prog.info? 50).map (fun i => (i.zero, i.size, i.bytes)) = some (some (.agg #[.bool false, .int .i64 0, .slice none 0 0]), 3, 40) := by kernel_rfl
theorem info_bats : (Try.prog.info? 48).map (fun i => (i.zero, i.size, i.bytes)) = some (some (.slice none 0 0), 1, 24) := by kernel_rfl
theorem size_bats : (Try.prog.info? 48).map (·.size) = some 1 := by kernel_rfl
/-- a row of places, all empty -/
def noneL (n : Nat) : List Value := (madeCells (Value.agg #[.bool false, .int .i64 0, .slice none 0 0]).cells (n * 3)).toList
theorem noneL_at {n b : Nat} (h : b < n) : (noneL n)[b * 3]? = some (.bool false) ∧ (noneL n)[b * 3 + 1]? = some (.int .i64 0) ∧ (noneL n)[b * 3 + 2]? = some (.slice none 0 0) := by
  have e : (Value.agg #[.bool false, .int .i64 0, .slice none 0 0]).cells = #[.bool false, .int .i64 0, .slice none 0 0] := rfl
  have h0 : b * 3 < n * 3 := by omega
  have h1 : b * 3 + 1 < n * 3 := by omega
  have h2 : b * 3 + 2 < n * 3 := by omega
  have m0 : b * 3 % 3 = 0 := by omega
  have m1 : (b * 3 + 1) % 3 = 1 := by omega
  have m2 : (b * 3 + 2) % 3 = 2 := by omega
  rw [noneL, e]
  refine ⟨?_, ?_, ?_⟩
  · simp [madeCells, h0, m0]
  · simp [madeCells, h1, m1]
  · simp [madeCells, h2, m2]
theorem wpList_make_bats {ops : Array Oper} {rest : List Oper} {o : Oper} {a : Act} {Q : Exit → Act → World → Prop} (w : World) (hg : o.guard = none) (l : Operand) (hop : o.op = Op.makeSlice 47 l l)
    (k : IntKind) (L : Int) (n : Nat) (hl : a.eval l = .int k L) (hL : L = (n : Int)) (hn : n ≤ 4096)
    (h : ∀ w', w'.ownsRow w.heap.size 48 1 (.slice (some ⟨w.heap.size, 0, none⟩) n n) n (List.replicate n (.slice none 0 0)) → Below w.heap.size w w' → wpList Try.prog ops Q rest (a.put o.dst (.slice (some ⟨w.heap.size, 0, none⟩) n n)) w') :
    wpList Try.prog ops Q (o :: rest) a w := by
  obtain ⟨i0, hi, hz0, hz1, hz2⟩ := info_parts info_bats
  refine wpList_make_full w hg l l 47 hop w.heap.size 48 i0 (.slice none 0 0) 1 Try.underlying47 hi hz0 hz1 k k L L n hl hl hL hL (by rw [hz2]; omega) (size_le (by omega)) (Nat.le_refl _) ?_
  intro w' h1 h2
  rw [made_one _ _ rfl] at h1
  exact h w' h1 (below_none h2)
theorem wpList_make_bat {ops : Array Oper} {rest : List Oper} {o : Oper} {a : Act} {Q : Exit → Act → World → Prop} (w : World) (hg : o.guard = none) (l : Operand) (hop : o.op = Op.makeSlice 48 l l)
    (k : IntKind) (L : Int) (n : Nat) (hl : a.eval l = .int k L) (hL : L = (n : Int)) (hn : n ≤ 4096)
    (h : ∀ w', w'.ownsRow w.heap.size 50 3 (.slice (some ⟨w.heap.size, 0, none⟩) n n) n (noneL n) → Below w.heap.size w w' → wpList Try.prog ops Q rest (a.put o.dst (.slice (some ⟨w.heap.size, 0, none⟩) n n)) w') :
    wpList Try.prog ops Q (o :: rest) a w := by
  obtain ⟨i0, hi, hz0, hz1, hz2⟩ := info_parts info_bat
  refine wpList_make_full w hg l l 48 hop w.heap.size 50 i0 _ 3 Try.underlying48 hi hz0 hz1 k k L L n hl hl hL hL (by rw [hz2]; omega) (size_le (by omega)) (Nat.le_refl _) ?_
  intro w' h1 h2
  exact h w' h1 (below_none h2)
theorem wpList_app_rows {ops : Array Oper} {rest : List Oper} {o : Oper} {a : Act} {Q : Exit → Act → World → Prop} (w : World) (hgd : o.guard = none) (s x : Operand)
    (ho : o.op = .call { callee := .builtin .append, args := #[s, x], argTypes := #[25, 25] }) (base n : Nat) (v : Value) (xs : List Value) (hs : a.eval s = v) (hown : w.ownsRow base 2 1 v n xs)
    (b2 L : Nat) (vz : Value) (zs : List Value) (hx : a.eval x = vz) (hz : w.ownsRow b2 2 1 vz L zs) (hzc : ∀ u ∈ zs, u.oneCell' = true) (hn : n + L ≤ 1048576) (hbase : base ≤ w.heap.size)
    (h : ∀ v' w', w'.ownsRow base 2 1 v' (n + L) (xs ++ zs) → w.grownBy w' v.ownBlock → wpList Try.prog ops Q rest (a.put o.dst v') w') :
    wpList Try.prog ops Q (o :: rest) a w := by
  obtain ⟨i0, hi, hz0, hz1, hz2⟩ := info_parts info_int
  rcases hz.2 with ⟨hv, hn0⟩ | ⟨g, cap, cur, hv, hb, hg, hc, _⟩
  · subst hv
    have hl := hz.1
    rw [hn0] at hl
    have hzs : zs = [] := List.length_eq_zero_iff.1 (by simpa using hl)
    refine wpList_append_own_none hgd s x 25 ho base 2 i0 1 Try.underlying25 hi v n xs hs hown hx ?_
    refine h v w ?_ (below_all (Below.refl _ _) _)
    rw [hn0, hzs, List.append_nil, Nat.add_zero]
    exact hown
  · subst hv
    refine wpList_append_own_at _ hgd s x 25 ho base 2 i0 (.int .i64 0) 1 8 Try.underlying25 hi hz0 hz1 hz2 rfl (by decide) v n xs hs hown ⟨g, 0, none⟩ L cap zs hx (by have := hz.1; omega) (fun j u hu => ?_) hzc (by unfold maxLen; omega) (by omega) hbase ?_
    · have hj : j < L * 1 := by
        have := (List.getElem?_eq_some_iff.1 hu).1
        have := hz.1
        omega
      have := hz.cellAt j hj
      rw [hu] at this
      unfold Addr.add
      by_cases h0 : j = 0
      · subst h0; simpa using this
      · simpa [h0] using this
    · intro v' w' h2 h3 _ _
      exact h v' w' h2 h3
theorem CellV.kept {w w' : World} {G h : Nat} {m : BCell} {v : Value} (hc : CellV w G m v) (hg : w.grownBy w' (some h)) (hh : h < G) : CellV w' G m v := by
  cases m with
  | none => exact hc
  | some x =>
    obtain ⟨c, s⟩ := x
    obtain ⟨z, h1, h2, h3⟩ := hc
    refine ⟨z, h1, h2.kept hg ?_, h3⟩
    refine .inr fun e => ?_
    have := World.ownsRow.lt h2 h e
    omega
/-- a row of the table -/
def RowOk (w : World) (G n : Nat) (xs : List Value) (M : Nat → BCell) : Prop :=
  ∀ b, b ≤ n → ∃ x y z, xs[b * 3]? = some x ∧ xs[b * 3 + 1]? = some y ∧ xs[b * 3 + 2]? = some z ∧ CellV w G (M b) (.agg #[x, y, z])
structure TabAt (w : World) (gT G n : Nat) (rb : Nat → Nat) (xs : Nat → List Value) (M : Nat → Nat → BCell) : Prop where
  out : ∀ k, k ≤ n → w.cell? ⟨gT, k, none⟩ = some (.slice (some ⟨rb k, 0, none⟩) (n + 1) (n + 1))
  inj : ∀ i j, i ≤ n → j ≤ n → rb i = rb j → i = j
  lo : ∀ i, i ≤ n → gT < rb i ∧ rb i < G
  row : ∀ k, k ≤ n → w.ownsRow gT 50 3 (.slice (some ⟨rb k, 0, none⟩) (n + 1) (n + 1)) (n + 1) (xs k)
  cells : ∀ k, k ≤ n → RowOk w G n (xs k) (M k)
theorem TabAt.below {w w' : World} {gT G n : Nat} {rb : Nat → Nat} {xs : Nat → List Value} {M : Nat → Nat → BCell} (h : TabAt w gT G n rb xs M) (hb : Below w.heap.size w w') : TabAt w' gT G n rb xs M :=
  ⟨fun k hk => below_at hb (h.out k hk), h.inj, h.lo, fun k hk => own_below (h.row k hk) hb, fun k hk b hb' => by
    obtain ⟨x, y, z, h1, h2, h3, h4⟩ := h.cells k hk b hb'
    exact ⟨x, y, z, h1, h2, h3, CellV.below h4 hb⟩⟩
/-- the cells of a place -/
theorem TabAt.cell {w : World} {gT G n : Nat} {rb : Nat → Nat} {xs : Nat → List Value} {M : Nat → Nat → BCell} (h : TabAt w gT G n rb xs M) {k b : Nat} (hk : k ≤ n) (hb : b ≤ n) :
    ∃ x y z, w.cell? ⟨rb k, b * 3, none⟩ = some x ∧ w.cell? ⟨rb k, b * 3 + 1, none⟩ = some y ∧ w.cell? ⟨rb k, b * 3 + 2, none⟩ = some z ∧ CellV w G (M k b) (.agg #[x, y, z]) := by
  obtain ⟨x, y, z, h1, h2, h3, h4⟩ := h.cells k hk b hb
  have hr := h.row k hk
  exact ⟨x, y, z, by rw [hr.cellAt _ (by omega)]; exact h1, by rw [hr.cellAt _ (by omega)]; exact h2, by rw [hr.cellAt _ (by omega)]; exact h3, h4⟩
def updM (M : Nat → Nat → BCell) (k b : Nat) (c : BCell) : Nat → Nat → BCell := fun k' b' => if k' = k ∧ b' = b then c else M k' b'
def updX (xs : Nat → List Value) (k : Nat) (v : List Value) : Nat → List Value := fun k' => if k' = k then v else xs k'
theorem updM_same (M : Nat → Nat → BCell) (k b : Nat) (c : BCell) : updM M k b c k b = c := by simp [updM]
theorem updM_other (M : Nat → Nat → BCell) (k b : Nat) (c : BCell) {k' b' : Nat} (h : ¬ (k' = k ∧ b' = b)) : updM M k b c k' b' = M k' b' := by rw [updM, if_neg h]
/-- a place of the table is written -/
theorem TabAt.put {w w' : World} {gT G n : Nat} {rb : Nat → Nat} {xs : Nat → List Value} {M : Nat → Nat → BCell} (h : TabAt w gT G n rb xs M) {k b : Nat} (hk : k ≤ n) (hb : b ≤ n) {x y z : Value} {c : BCell} (hc : CellV w G c (.agg #[x, y, z])) {ys : List Value}
    (ho : w'.ownsRow gT 50 3 (.slice (some ⟨rb k, 0, none⟩) (n + 1) (n + 1)) (n + 1) ys) (hg : w.grownBy w' (some (rb k)))
    (hy : ∀ j, ys[j]? = if j = b * 3 + 2 then some z else if j = b * 3 + 1 then some y else if j = b * 3 then some x else (xs k)[j]?) : TabAt w' gT G n rb (updX xs k ys) (updM M k b c) := by
  have hlo := h.lo k hk
  refine ⟨fun k' hk' => hg.cell (h.out k' hk') (by simp only [ne_eq, Option.some.injEq]; omega), h.inj, h.lo, fun k' hk' => ?_, fun k' hk' b' hb' => ?_⟩
  · by_cases he : k' = k
    · subst he
      rw [updX, if_pos rfl]; exact ho
    · rw [updX, if_neg he]
      refine (h.row k' hk').kept hg (.inr ?_)
      simp only [Value.ownBlock, Option.map_some, ne_eq, Option.some.injEq]
      exact fun e => he (h.inj _ _ hk' hk e)
  · by_cases he : k' = k
    · subst he
      rw [updX, if_pos rfl]
      by_cases he2 : b' = b
      · subst he2
        rw [updM_same]
        refine ⟨x, y, z, ?_, ?_, ?_, CellV.kept hc hg hlo.2⟩
        · rw [hy, if_neg (by omega), if_neg (by omega), if_pos rfl]
        · rw [hy, if_neg (by omega), if_pos rfl]
        · rw [hy, if_pos rfl]
      · rw [updM_other _ _ _ _ (fun e => he2 e.2)]
        obtain ⟨x', y', z', h1, h2, h3, h4⟩ := h.cells k' hk' b' hb'
        refine ⟨x', y', z', ?_, ?_, ?_, CellV.kept h4 hg hlo.2⟩
        · rw [hy, if_neg (by omega), if_neg (by omega), if_neg (by omega)]; exact h1
        · rw [hy, if_neg (by omega), if_neg (by omega), if_neg (by omega)]; exact h2
        · rw [hy, if_neg (by omega), if_neg (by omega), if_neg (by omega)]; exact h3
    · rw [updX, if_neg he]
      rw [show (updM M k b c k') = M k' from funext fun b' => updM_other _ _ _ _ (fun e => he e.1)]
      obtain ⟨x', y', z', h1, h2, h3, h4⟩ := h.cells k' hk' b' hb'
      exact ⟨x', y', z', h1, h2, h3, CellV.kept h4 hg hlo.2⟩
theorem set3_at {xs : List Value} {n b : Nat} {x y z : Value} (hl : xs.length = (n + 1) * 3) (hb : b ≤ n) (j : Nat) : (((xs.set (b * 3) x).set (b * 3 + 1) y).set (b * 3 + 2) z)[j]? = if j = b * 3 + 2 then some z else if j = b * 3 + 1 then some y else if j = b * 3 then some x else xs[j]? := by
  rw [List.getElem?_set, List.getElem?_set, List.getElem?_set]
  simp only [List.length_set, hl]
  by_cases h1 : j = b * 3 + 2
  · subst h1; rw [if_pos rfl, if_pos (by omega), if_pos rfl]
  · rw [if_neg (fun e => h1 e.symm), if_neg h1]
    by_cases h2 : j = b * 3 + 1
    · subst h2; rw [if_pos rfl, if_pos (by omega), if_pos rfl]
    · rw [if_neg (fun e => h2 e.symm), if_neg h2]
      by_cases h3 : j = b * 3
      · subst h3; rw [if_pos rfl, if_pos (by omega), if_pos rfl]
      · rw [if_neg (fun e => h3 e.symm), if_neg h3]
end Go.Proofs.Ytkdjeneogclocaa
