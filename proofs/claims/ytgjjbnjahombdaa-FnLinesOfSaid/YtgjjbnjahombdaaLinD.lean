/- A table of states in memory; a store of a state. -/
import Derived.Test.YtgjjbnjahombdaaLinC
import Derived.Test.YtgjjbnjahombdaaStoreBox
import Derived.Deep.RegionHeld3
namespace Go.Proofs.Ytgjjbnjahombdaa.Plain
set_option linter.unusedVariables false
set_option linter.unusedSimpArgs false
section
variable {c n : Nat} {t bf : Nat → Nat}
theorem upd_inv {G : Nat → Nat × Nat → Prop} (hs : ∀ d i p, i < n → d < 2 ^ n → G d p → d.testBit i = false → mns (bf i) d = 0 → G (d ||| 2 ^ i) (nx c p (t i))) {T : Tbl} {d i : Nat} (hi : i < n) (hd : d < 2 ^ n) (h : ∀ e p, T e = some p → G e p) : ∀ e p, tblU c t bf T d i e = some p → G e p := fun e p he => by
  by_cases hb : d.testBit i = true ∨ mns (bf i) d ≠ 0
  · unfold tblU at he; rw [if_pos hb] at he; exact h e p he
  · by_cases hee : e = d ||| 2 ^ i
    · subst hee
      unfold tblU at he
      rw [if_neg hb] at he
      simp only [not_or, Decidable.not_not] at hb
      cases hq : T d with
      | none => rw [hq] at he; exact h _ p he
      | some q =>
        have hg := hs d i q hi hd (h d q hq) (by simpa using hb.1) hb.2
        rw [hq] at he
        cases ho : T (d ||| 2 ^ i) with
        | none =>
          rw [ho] at he
          simp at he
          cases he; exact hg
        | some old =>
          rw [ho] at he
          simp only at he
          by_cases hl : lxLt (nx c q (t i)) old
          · rw [if_pos hl, if_pos rfl] at he; cases he; exact hg
          · rw [if_neg hl] at he; exact h _ p he
    · rw [tblU_keep hee] at he; exact h e p he
theorem step_inv {G : Nat → Nat × Nat → Prop} (hs : ∀ d i p, i < n → d < 2 ^ n → G d p → d.testBit i = false → mns (bf i) d = 0 → G (d ||| 2 ^ i) (nx c p (t i))) {T : Tbl} {d : Nat} (hd : d < 2 ^ n) (h : ∀ e p, T e = some p → G e p) : ∀ i, i ≤ n → ∀ e p, tblS c t bf T d i e = some p → G e p
  | 0, _ => h
  | i + 1, hi => upd_inv hs (by omega) hd (step_inv hs hd h i (by omega))
theorem run_inv {G : Nat → Nat × Nat → Prop} (h0 : G 0 (1, 0)) (hs : ∀ d i p, i < n → d < 2 ^ n → G d p → d.testBit i = false → mns (bf i) d = 0 → G (d ||| 2 ^ i) (nx c p (t i))) : ∀ D, D ≤ 2 ^ n → ∀ e p, tblR c n t bf D e = some p → G e p
  | 0, _, e, p, h => by
    rw [tblR] at h
    by_cases he : e = 0
    · subst he
      simp at h; cases h
      exact h0
    · simp only [if_neg he] at h; cases h
  | D + 1, hD, e, p, h => by
    rw [tblR] at h
    cases hd : tblR c n t bf D D with
    | none => rw [hd] at h; exact run_inv h0 hs D (by omega) e p h
    | some q =>
      rw [hd] at h
      exact step_inv hs (by omega) (run_inv h0 hs D (by omega)) n (Nat.le_refl _) e p h
/-- numbers stay small -/
def SmallT (c : Nat) (e : Nat) (p : Nat × Nat) : Prop := p.1 ≤ e + 1 ∧ p.2 ≤ c
theorem small_step (htc : ∀ i, i < n → t i ≤ c) (d i : Nat) (p : Nat × Nat) (hi : i < n) (hd : d < 2 ^ n) (h : SmallT c d p) (hb : d.testBit i = false) (hs : mns (bf i) d = 0) : SmallT c (d ||| 2 ^ i) (nx c p (t i)) := by
  have h1 := or_gt hb
  obtain ⟨h2, h3⟩ := h
  have h4 := htc i hi
  unfold nx SmallT
  split <;> simp only <;> omega
end
end Go.Proofs.Ytgjjbnjahombdaa.Plain
namespace Go.Proofs.Ytgjjbnjahombdaa
open Go.RowKit Plain
set_option linter.unusedVariables false
set_option linter.unusedSimpArgs false
attribute [local go_sem ↓] Go.wp_at_zero Go.wp_at_succ
theorem run_storeVar_two {P : Program} (w : World) (base e n cap g : Nat) (xs : List Value) (hown : w.ownsRow base e 2 (.slice (some ⟨g, 0, none⟩) n cap) n xs) (k : Nat) (u v : Value) (ty : TypeId)
    (h1 : u.oneCell' = true) (h2 : v.oneCell' = true) (hk : k < n) (hi : (P.info? ty).map (·.size) = some 2) : (storeVar ty ⟨g, k * 2, none⟩ (.agg #[u, v])).run P w = .ok () ((w.setCell ⟨g, k * 2, none⟩ u).setCell ⟨g, k * 2 + 1, none⟩ v) := by
  have hl := hown.1
  have hc := hown.cellAt (k * 2) (by omega)
  have hf := hown.frozenAt (k * 2)
  rw [List.getElem?_eq_getElem (show k * 2 < xs.length by omega)] at hc
  have hown2 := (hown.stored (k * 2) u).1
  have hc2 := hown2.cellAt (k * 2 + 1) (by omega)
  have hf2 := hown2.frozenAt (k * 2 + 1)
  rw [List.getElem?_eq_getElem (show k * 2 + 1 < (xs.set (k * 2) u).length by rw [List.length_set]; omega)] at hc2
  have hu : u.cells = #[u] := by cases u <;> first | rfl | cases h1
  have hv : v.cells = #[v] := by cases v <;> first | rfl | cases h2
  have hcs : (Value.agg #[u, v]).cells = #[u, v] := by simp [Value.cells, hu, hv]
  cases hq : P.info? ty with
  | none => simp [hq] at hi
  | some i =>
    have hs : i.size = 2 := by simpa [hq] using hi
    have hr := run_store P w ⟨g, k * 2, none⟩ u .plain h1
    rw [hc] at hr
    simp only [hf] at hr
    have hr2 := run_store P (w.setCell ⟨g, k * 2, none⟩ u) ⟨g, k * 2 + 1, none⟩ v .plain h2
    rw [hc2] at hr2
    simp only [hf2] at hr2
    simp [storeVar, sizeOf, typeInfo, hq, hcs, hs, storeCells, Addr.add, hr, hr2]
theorem wpList_store_two {P : Program} {ops : Array Oper} {rest : List Oper} {ty tt : TypeId} {x y : Operand} {pp : String} {af : Array Edge} {a : Act} {Q : Exit → Act → World → Prop} (w : World) (base e n cap g : Nat) (xs : List Value)
    (hown : w.ownsRow base e 2 (.slice (some ⟨g, 0, none⟩) n cap) n xs) (hi : (P.info? ty).map (·.size) = some 2) (k : Nat) (u v : Value) (hx : a.eval x = .pointer (some ⟨g, k * 2, none⟩)) (hy : a.eval y = .agg #[u, v]) (h1 : u.oneCell' = true) (h2 : v.oneCell' = true) (hk : k < n)
    (h : ∀ w', w'.ownsRow base e 2 (.slice (some ⟨g, 0, none⟩) n cap) n ((xs.set (k * 2) u).set (k * 2 + 1) v) → w.grownBy w' (some g) → wpList P ops Q rest a w') :
    wpList P ops Q ({ dst := none, op := .store ty x y, type := tt, pos := pp, after := af, guard := none } :: rest) a w := by
  refine wpList_plain rfl fun K hK => ?_
  unfold Oper.wp execOp
  simp only [hx, hy, Instr.storeAt, Instr.sureAddr, Sem.run_bind, Sem.run_pure, Result.andThen_ok, run_storeVar_two w base e n cap g xs hown k u v ty h1 h2 hk hi]
  have s1 := hown.stored (k * 2) u
  have s2 := s1.1.stored (k * 2 + 1) v
  exact hK _ _ (h _ s2.1 (s1.2.trans s2.2))
/-- the cells of a table of states -/
def stC (Z : Nat) (T : Tbl) : List Value := (List.range (Z * 2)).map fun j => .int .i64 (if j % 2 = 0 then (((T (j / 2)).getD (0, 0)).1 : Int) else (((T (j / 2)).getD (0, 0)).2 : Int))
def knC (Z : Nat) (T : Tbl) : List Value := (List.range Z).map fun j => .bool (T j).isSome
theorem stC_len (Z : Nat) (T : Tbl) : (stC Z T).length = Z * 2 := by simp [stC]
theorem stC_at {Z j : Nat} (T : Tbl) (h : j < Z * 2) : (stC Z T)[j]? = some (.int .i64 (if j % 2 = 0 then (((T (j / 2)).getD (0, 0)).1 : Int) else (((T (j / 2)).getD (0, 0)).2 : Int))) := by
  rw [stC, List.getElem?_map, List.getElem?_range h]; rfl
theorem knC_at {Z j : Nat} (T : Tbl) (h : j < Z) : (knC Z T)[j]? = some (.bool (T j).isSome) := by
  rw [knC, List.getElem?_map, List.getElem?_range h]; rfl
theorem stC_set {Z k : Nat} (T : Tbl) (q : Nat × Nat) (h : k < Z) : ((stC Z T).set (k * 2) (.int .i64 q.1)).set (k * 2 + 1) (.int .i64 q.2) = stC Z fun e => if e = k then some q else T e := by
  refine List.ext_getElem? fun j => ?_
  rw [List.getElem?_set, List.getElem?_set, List.length_set]
  by_cases hj : j < Z * 2
  · rw [stC_at _ hj, stC_at _ hj, stC_len]
    by_cases h1 : k * 2 + 1 = j
    · rw [if_pos h1, if_pos (by omega), if_neg (by omega), show j / 2 = k by omega, if_pos rfl]; rfl
    · rw [if_neg h1]
      by_cases h2 : k * 2 = j
      · rw [if_pos h2, if_pos (by omega), if_pos (by omega), show j / 2 = k by omega, if_pos rfl]; rfl
      · rw [if_neg h2, if_neg (show ¬ j / 2 = k by omega)]
  · rw [if_neg (by omega), if_neg (by omega), List.getElem?_eq_none (by rw [stC_len]; omega), List.getElem?_eq_none (by rw [stC_len]; omega)]
theorem knC_set {Z k : Nat} (T : Tbl) (q : Nat × Nat) (h : k < Z) : (knC Z T).set k (.bool true) = knC Z fun e => if e = k then some q else T e := by
  refine List.ext_getElem? fun j => ?_
  have hl : (knC Z T).length = Z := by simp [knC]
  rw [List.getElem?_set]
  by_cases hj : j < Z
  · rw [knC_at _ hj, knC_at _ hj, hl]
    by_cases h1 : k = j
    · subst h1; rw [if_pos rfl, if_pos h, if_pos rfl]; rfl
    · rw [if_neg h1, if_neg (fun e => h1 e.symm)]
  · rw [if_neg (by omega), List.getElem?_eq_none (by omega), List.getElem?_eq_none (by simp [knC]; omega)]
theorem stC_none (Z : Nat) : stC Z (fun _ => none) = List.replicate (Z * 2) (.int .i64 0) := by
  refine List.ext_getElem? fun j => ?_
  by_cases hj : j < Z * 2
  · rw [stC_at _ hj, List.getElem?_replicate, if_pos hj]; simp
  · rw [List.getElem?_eq_none (by rw [stC_len]; omega), List.getElem?_eq_none (by simp; omega)]
theorem knC_none (Z : Nat) : knC Z (fun _ => none) = List.replicate Z (.bool false) := by
  refine List.ext_getElem? fun j => ?_
  by_cases hj : j < Z
  · rw [knC_at _ hj, List.getElem?_replicate, if_pos hj]; rfl
  · rw [List.getElem?_eq_none (by simp [knC]; omega), List.getElem?_eq_none (by simp; omega)]
/-- the two rows of a table -/
structure TabL (w : World) (B gT gK Z : Nat) (T : Tbl) : Prop where
  t : w.ownsRow B 60 2 (.slice (some ⟨gT, 0, none⟩) Z Z) Z (stC Z T)
  k : w.ownsRow B 4 1 (.slice (some ⟨gK, 0, none⟩) Z Z) Z (knC Z T)
theorem TabL.below {w w' : World} {B gT gK Z : Nat} {T : Tbl} (h : TabL w B gT gK Z T) (hb : Below w.heap.size w w') : TabL w' B gT gK Z T := ⟨own_below h.t hb, own_below h.k hb⟩
theorem TabL.known {w : World} {B gT gK Z e : Nat} {T : Tbl} (h : TabL w B gT gK Z T) (he : e < Z) : w.cell? ⟨gK, e, none⟩ = some (.bool (T e).isSome) := by
  rw [h.k.cellAt e (by omega), knC_at _ he]
theorem TabL.one {w : World} {B gT gK Z e : Nat} {T : Tbl} (h : TabL w B gT gK Z T) (he : e < Z) : w.cell? ⟨gT, e * 2, none⟩ = some (.int .i64 ((T e).getD (0, 0)).1) ∧ w.cell? ⟨gT, e * 2 + 1, none⟩ = some (.int .i64 ((T e).getD (0, 0)).2) := by
  rw [h.t.cellAt (e * 2) (by omega), h.t.cellAt (e * 2 + 1) (by omega), stC_at _ (by omega), stC_at _ (by omega), if_pos (by omega), if_neg (by omega), show e * 2 / 2 = e by omega, show (e * 2 + 1) / 2 = e by omega]
  exact ⟨rfl, rfl⟩
theorem info_state : (Try.prog.info? 60).map (fun i => (i.zero, i.size, i.bytes)) = some (some (.agg #[.int .i64 0, .int .i64 0]), 2, 16) := by kernel_rfl
theorem size_state : (Try.prog.info? 60).map (·.size) = some 2 := by kernel_rfl
theorem wpList_make_state {ops : Array Oper} {rest : List Oper} {o : Oper} {a : Act} {Q : Exit → Act → World → Prop} (w : World) (hg : o.guard = none) (l : Operand) (hop : o.op = Op.makeSlice 57 l l)
    (k : IntKind) (L : Int) (n : Nat) (hl : a.eval l = .int k L) (hL : L = (n : Int)) (hn : n ≤ 1048576)
    (h : ∀ w', w'.ownsRow w.heap.size 60 2 (.slice (some ⟨w.heap.size, 0, none⟩) n n) n (stC n fun _ => none) → Below w.heap.size w w' → wpList Try.prog ops Q rest (a.put o.dst (.slice (some ⟨w.heap.size, 0, none⟩) n n)) w') :
    wpList Try.prog ops Q (o :: rest) a w := by
  obtain ⟨i0, hi, hz0, hz1, hz2⟩ := info_parts info_state
  refine wpList_make_full w hg l l 57 hop w.heap.size 60 i0 (.agg #[.int .i64 0, .int .i64 0]) 2 Try.underlying57 hi hz0 hz1 k k L L n hl hl hL hL (by rw [hz2]; omega) (size_le hn) (Nat.le_refl _) ?_
  intro w' h1 h2
  have e : (madeCells (Value.agg #[.int .i64 0, .int .i64 0]).cells (n * 2)).toList = stC n fun _ => none := by
    rw [stC_none]
    refine made_same _ (.int .i64 0) (by simp [Value.cells]) (fun i hi => ?_) (n * 2)
    have : i = 0 ∨ i = 1 := by simp [Value.cells] at hi; omega
    rcases this with rfl | rfl <;> simp [Value.cells]
  rw [e] at h1
  exact h w' h1 (below_none h2)
end Go.Proofs.Ytgjjbnjahombdaa
