/- The reference's draw of tasks: a contract. -/
import Derived.Test.YtdbojkanelmlkaaProR
namespace Go.Proofs.Ytdbojkanelmlkaa
open Go.RowKit Plain
set_option linter.unusedVariables false
set_option linter.unusedSimpArgs false
attribute [local go_sem ↓] Go.wp_at_zero Go.wp_at_succ
theorem ta_of {w : World} {B g N : Nat} {u : Value} {l : List TI} (hl : l.length = N) (n1 : 1 ≤ N) (n9 : N ≤ 9) (hd' : ∀ i p, l[i]? = some p → TDrawn i p.t ∧ TDone w B g u p) (ho : w.ownsRow B 34 4 u N (tisCells l)) : ∃ b c, u = .slice (some ⟨b, 0, none⟩) N c ∧ TA w b 0 c (l.map (·.t)) N := by
  obtain ⟨b, c, rfl, _, _⟩ := own_form ho n1
  have hnc : N ≤ c := by
    obtain ⟨_, _, e, hn, _⟩ := own_sl ho (by unfold maxLen; omega)
    cases e
    exact hn
  refine ⟨b, c, rfl, ⟨fun i hi => ?_, n1, n9, hnc, fun i hi => ?_⟩⟩
  · have e : l[i]? = some l[i] := List.getElem?_eq_getElem (by omega)
    have := (hd' i _ e).1.ok
    rw [tkAt, List.getD_eq_getElem?_getD, List.getElem?_map, e]
    exact this
  · have e : l[i]? = some l[i] := List.getElem?_eq_getElem (by omega)
    have h1 := (hd' i _ e).1
    have h2 := (hd' i _ e).2
    rw [tkAt, List.getD_eq_getElem?_getD, List.getElem?_map, e]
    show TCell w b (0 + i * 4) l[i].t
    have cell : ∀ j u', j < 4 → (tiCells l[i])[j]? = some u' → w.cell? ⟨b, i * 4 + j, none⟩ = some u' := fun j u' hj hu => by
      rw [ho.cellAt (i * 4 + j) (by omega), tis_get e j hj]; exact hu
    have hs := h1.ok.short
    obtain ⟨Ab, cb, eb, hcb, hrb⟩ := own_sl h2.ob (by unfold maxLen; omega)
    obtain ⟨Al, cl, el, hcl, hrl⟩ := own_sl h2.ol (by unfold maxLen; omega)
    rw [Nat.zero_add]
    exact ⟨Ab, cb, Al, cl, cell 0 _ (by omega) rfl, cell 1 _ (by omega) rfl, cell 2 _ (by omega) (by rw [← eb]; rfl), cell 3 _ (by omega) (by rw [← el]; rfl), hrb, hrl, hcb, hcl⟩
theorem td_of {w : World} {B g N : Nat} {u : Value} {l : List TI} (hl : l.length = N) (hd' : ∀ i p, l[i]? = some p → TDrawn i p.t ∧ TDone w B g u p) : ∀ i, i < N → TDrawn i (tkAt (l.map (·.t)) i) := fun i hi => by
  have e : l[i]? = some l[i] := List.getElem?_eq_getElem (by omega)
  have := (hd' i _ e).1
  rw [tkAt, List.getD_eq_getElem?_getD, List.getElem?_map, e]
  exact this
/-- with what is told of what is drawn -/
def TasksD (N : Nat) (w : World) (r : Ending) (w' : World) : Prop := ∃ ts b c, r = .returned (.slice (some ⟨b, 0, none⟩) N c) ∧ TA w' b 0 c ts N ∧ (∀ i, i < N → TDrawn i (tkAt ts i)) ∧ Below w.heap.size w w'
def TasksB (N : Nat) (w : World) (r : Ending) (w' : World) : Prop := ∃ ts b c, r = .returned (.slice (some ⟨b, 0, none⟩) N c) ∧ TA w' b 0 c ts N ∧ Below w.heap.size w w'
set_option maxHeartbeats 1000000 in
theorem B10TasksD_any (cv : Value) (xs : List Nat) (hx : ∀ x ∈ xs, x < 256) (w : World) (hs : Sl w 1 cv xs.length (bys xs)) (N : Nat) (e1 : 1 ≤ N) (e2 : N ≤ 9) :
    Calls Try.prog 6 #[cv, .int .i64 N] w (TasksD N w) := by
  have HSL := hd hs
  obtain ⟨A, cap, rfl, hcap, hr⟩ := hs
  have HF := hd (l00From_any A xs.length cap w)
  have hne : NeSl (.slice A xs.length cap) w.heap.size := by
    intro A' n' c' e h0 e2
    cases e
    obtain ⟨b, off, rfl, hc⟩ := hr.2.2 h0
    have hc0 := hc 0 (.int .u8 (xs[0] : Int)) (by simp [bys, List.getElem?_eq_getElem h0])
    have hlt : b < w.heap.size := block_lt_of_cell hc0
    simp only [Option.map_some, Option.some.injEq] at e2
    omega
  clear hr
  go_enter Try.func6, Try.ntmps6
  go_wp2_with fail
  go_at_call 15
  refine HF.out.mono ?_
  rintro e w1 ⟨rfl, hb, hB⟩
  have HR := hd (drawTasks_any w.heap.size (.slice A xs.length cap) xs hx w1 (HSL.out.below hB) hne hb (sbox_ltP hb) N e2)
  have HB := hd hB
  clear hb hB
  go_wp2_with fail
  go_at_call 16
  refine HR.out.mono ?_
  rintro e w2 ⟨l, u, rfl, h1, h2, h3, h4⟩
  obtain ⟨b, c, rfl, hta⟩ := ta_of h1 e1 e2 h2 h3
  have HTA := hd hta
  have HTD := hd (td_of h1 h2)
  have HB2 := hd (below_row h4 HB.out (fun k e => by cases e; exact Nat.le_refl _))
  clear h2 h3 h4 hta HR HF HSL hne hx
  go_wp2
  go_ret
  exact ⟨_, b, c, rfl, HTA.out, HTD.out, HB2.out⟩
theorem B10Tasks_any (cv : Value) (xs : List Nat) (hx : ∀ x ∈ xs, x < 256) (w : World) (hs : Sl w 1 cv xs.length (bys xs)) (N : Nat) (e1 : 1 ≤ N) (e2 : N ≤ 9) :
    Calls Try.prog 6 #[cv, .int .i64 N] w (TasksB N w) :=
  (B10TasksD_any cv xs hx w hs N e1 e2).mono fun r w' => by
    rintro ⟨ts, b, c, h1, h2, h3, h4⟩
    exact ⟨ts, b, c, h1, h2, h4⟩
end Go.Proofs.Ytdbojkanelmlkaa
