/- A whole slice of tasks appended, a clone of it: contracts. -/
import Derived.Test.YtdbojkanelmlkaaProg
import Derived.Test.YtdbojkanelmlkaaProA
import Derived.Test.YtdbojkanelmlkaaApp
import Derived.Test.YtdbojkanelmlkaaSlice
import Derived.Test.YtdbojkanelmlkaaOwnF
namespace Go.Proofs.Ytdbojkanelmlkaa
open Go.RowKit Plain
set_option linter.unusedVariables false
set_option linter.unusedSimpArgs false
attribute [local go_sem ↓] Go.wp_at_zero Go.wp_at_succ
theorem info_taskH : (Try.prog.info? 34).map (fun i => (i.zero, i.size, i.bytes)) = some (some (.agg #[.int .i64 0, .int .i64 0, .slice none 0 0, .slice none 0 0]), 4, 64) := by kernel_rfl
/-- the cells of a slice of tasks -/
def tkCells (w : World) (b o n : Nat) : List Value := (List.range (n * 4)).map fun j => (w.cell? ⟨b, o + j, none⟩).getD undef
theorem tkCells_len (w : World) (b o n : Nat) : (tkCells w b o n).length = n * 4 := by simp [tkCells]
theorem TA.cells {w : World} {b o c : Nat} {ts : List TK} {n : Nat} (h : TA w b o c ts n) : ∀ j u, (tkCells w b o n)[j]? = some u → w.cell? ⟨b, o + j, none⟩ = some u ∧ u.oneCell' = true := fun j u hu => by
  have hj : j < n * 4 := by
    have := (List.getElem?_eq_some_iff.1 hu).1
    rw [tkCells_len] at this; exact this
  rw [tkCells, List.getElem?_map, List.getElem?_range hj] at hu
  simp only [Option.map_some, Option.some.injEq] at hu
  obtain ⟨Ab, cb, Al, cl, h0, h1, h2, h3, _⟩ := h.cl (j / 4) (by omega)
  have e : j = j / 4 * 4 + j % 4 := by omega
  have hm : j % 4 = 0 ∨ j % 4 = 1 ∨ j % 4 = 2 ∨ j % 4 = 3 := by omega
  rcases hm with hm | hm | hm | hm
  · have e2 : o + j = o + j / 4 * 4 := by omega
    rw [e2] at hu ⊢; rw [h0] at hu ⊢; subst hu; exact ⟨rfl, rfl⟩
  · have e2 : o + j = o + j / 4 * 4 + 1 := by omega
    rw [e2] at hu ⊢; rw [h1] at hu ⊢; subst hu; exact ⟨rfl, rfl⟩
  · have e2 : o + j = o + j / 4 * 4 + 2 := by omega
    rw [e2] at hu ⊢; rw [h2] at hu ⊢; subst hu; exact ⟨rfl, rfl⟩
  · have e2 : o + j = o + j / 4 * 4 + 3 := by omega
    rw [e2] at hu ⊢; rw [h3] at hu ⊢; subst hu; exact ⟨rfl, rfl⟩
theorem wpList_app_all_task {ops : Array Oper} {rest : List Oper} {o : Oper} {a : Act} {Q : Exit → Act → World → Prop} (w : World) (hgd : o.guard = none) (s x : Operand)
    (ho : o.op = .call { callee := .builtin .append, args := #[s, x], argTypes := #[25, 25] }) (base : Nat) (v : Value) (hs : a.eval s = v) (hown : w.ownsRow base 34 4 v 0 [])
    (b off n c : Nat) (ts : List TK) (hx : a.eval x = .slice (some ⟨b, off, none⟩) n c) (hr : TA w b off c ts n) (hbase : base ≤ w.heap.size)
    (h : ∀ v' w', w'.ownsRow base 34 4 v' n (tkCells w b off n) → w.grownBy w' v.ownBlock → wpList Try.prog ops Q rest (a.put o.dst v') w') :
    wpList Try.prog ops Q (o :: rest) a w := by
  obtain ⟨i0, hi, hz0, hz1, hz2⟩ := info_parts info_taskH
  have n9 := hr.n9
  refine wpList_append_own_at _ hgd s x 25 ho base 34 i0 _ 4 64 Try.underlying25 hi hz0 hz1 hz2 rfl (by decide) v 0 [] hs hown ⟨b, off, none⟩ n c (tkCells w b off n) hx (tkCells_len w b off n) (fun j u hu => ?_) (fun u hu => ?_) (by unfold maxLen; omega) (by omega) hbase ?_
  · have := (hr.cells j u hu).1
    unfold Addr.add
    by_cases hj : j = 0 <;> simpa [hj] using this
  · obtain ⟨j, hj⟩ := List.getElem?_of_mem hu
    exact (hr.cells j u hj).2
  · intro v' w' k2 k3 _ _
    rw [Nat.zero_add, List.nil_append] at k2
    exact h v' w' k2 k3
/-- a row that has the cells of tasks is a slice of tasks -/
theorem ta_row {w w' : World} {b o c : Nat} {ts : List TK} {n : Nat} (h : TA w b o c ts n) (hb : Below w.heap.size w w') {base g cg : Nat} (ho : w'.ownsRow base 34 4 (.slice (some ⟨g, 0, none⟩) n cg) n (tkCells w b o n)) (hn : n ≤ cg) : TA w' g 0 cg ts n :=
  ⟨h.ok, h.n1, h.n9, hn, fun i hi => by
    obtain ⟨Ab, cb, Al, cl, h0, h1, h2, h3, h4, h5, h6, h7⟩ := h.cl i hi
    have key : ∀ j u, j < 4 → w.cell? ⟨b, o + i * 4 + j, none⟩ = some u → w'.cell? ⟨g, 0 + i * 4 + j, none⟩ = some u := fun j u hj hu => by
      rw [Nat.zero_add, ho.cellAt (i * 4 + j) (by omega), tkCells, List.getElem?_map, List.getElem?_range (by omega), Option.map_some, ← Nat.add_assoc, hu]
      rfl
    exact ⟨Ab, cb, Al, cl, key 0 _ (by omega) h0, key 1 _ (by omega) h1, key 2 _ (by omega) h2, key 3 _ (by omega) h3, h4.below hb, h5.below hb, h6, h7⟩⟩
/-- a clone of tasks -/
def CloneOut (b o c : Nat) (ts : List TK) (n : Nat) (w : World) (r : Ending) (w' : World) : Prop :=
  ∃ g cg, r = .returned (.slice (some ⟨g, 0, none⟩) n cg) ∧ n ≤ cg ∧ w'.ownsRow w.heap.size 34 4 (.slice (some ⟨g, 0, none⟩) n cg) n (tkCells w b o n) ∧ Below w.heap.size w w'
set_option maxHeartbeats 1000000 in
set_option maxRecDepth 100000 in
theorem CloneT_any (b o c : Nat) (ts : List TK) (n : Nat) (w : World) (h : TA w b o c ts n) :
    Calls Try.prog 30 #[.slice (some ⟨b, o, none⟩) n c] w (CloneOut b o c ts n w) := by
  have n1 := h.n1
  have hW := hd (h.below ((Below.refl _ w).alloc (Nat.le_refl _) (.cells #[] 34)))
  have hcl := hd (show tkCells (w.alloc (.cells #[] 34)) b o n = tkCells w b o n by
    rw [tkCells, tkCells]
    refine List.map_congr_left fun j hj => ?_
    rw [List.mem_range] at hj
    have hl : j < (tkCells w b o n).length := by rw [tkCells_len]; exact hj
    have h1 := h.cells j _ (List.getElem?_eq_getElem hl)
    rw [h1.1, below_at ((Below.refl _ w).alloc (Nat.le_refl _) (.cells #[] 34)) h1.1])
  clear h
  have he : ∀ w : World, (binOp .eql 25 (.slice (some ⟨b, o, none⟩) n c) (.slice none 0 0)).run Try.prog w = .ok (.bool false) w := fun _ => rfl
  go_enter Try.func30, Try.ntmps30
  go_wp2_with (at_builtin; go_must (refine wpList_app_all_task _ rfl _ _ rfl w.heap.size _ rfl (World.ownsRow_made (size := 4) w #[] 0 (Nat.le_refl _) (by unfold maxLen; omega) rfl (e := 34)) b o n c _ rfl hW.out (by simp) ?_); intro v' w' h1 h2)
  rw [hcl.out] at h1
  have hn : n ≤ 1048576 := by have := hW.out.n9; omega
  obtain ⟨_, cg, e9, hcg, _⟩ := own_sl h1 (by unfold maxLen; omega)
  obtain ⟨g, cg', e8, _, _⟩ := own_form h1 n1
  rw [e8] at e9
  cases e9
  subst e8
  go_ret
  exact ⟨g, _, rfl, hcg, h1, ((Below.refl _ w).alloc (Nat.le_refl _) _).grown h2 (by simp) (own_row (World.ownsRow_made (size := 4) w #[] 0 (Nat.le_refl _) (by unfold maxLen; omega) rfl (e := 34)) (Nat.le_refl _))⟩
end Go.Proofs.Ytdbojkanelmlkaa
