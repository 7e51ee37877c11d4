/- Delays that spread along rules, on both sides. -/
import Derived.Test.YtnfgnlhpjhndfaaProg
import Derived.Test.YtnfgnlhpjhndfaaRules
import Derived.Test.YtnfgnlhpjhndfaaDelT
import Derived.Test.YtnfgnlhpjhndfaaCopy
import Derived.Test.YtnfgnlhpjhndfaaStoreOwn
import Derived.Test.YtnfgnlhpjhndfaaMaxMin
import Derived.StillTailTactics
namespace Go.Proofs.Ytnfgnlhpjhndfaa
open Go.RowKit Plain
set_option linter.unusedVariables false
set_option linter.unusedSimpArgs false
attribute [local go_sem ↓] Go.wp_at_zero Go.wp_at_succ

/-- each rule leads to a later event -/
def laterB (l : List Q4) : Bool := l.all fun q => decide (q.a < q.b)
def MD (ev : Int) (l : List Q4) (late : List Int) : List Int × Bool :=
  if rulesB ev 60 l && (manyIn late ev ev 0 1000 && laterB l) then (outD l late late.length, true) else ([], false)
theorem rules_q {ev p : Int} {l : List Q4} (h : rulesB ev p l = true) {k : Nat} {q : Q4} (hq : l[k]? = some q) : (0 ≤ q.a ∧ q.a ≤ ev - 1) ∧ (0 ≤ q.b ∧ q.b ≤ ev - 1) ∧ q.a ≠ q.b ∧ (0 ≤ q.c ∧ q.c ≤ p - 1) ∧ (q.c ≤ q.d ∧ q.d ≤ q.c + p - 1) := by
  simp only [rulesB, Bool.and_eq_true, List.all_eq_true] at h
  have := h.2.2.2 q (List.mem_of_getElem? hq)
  simpa only [ruleB, Bool.and_eq_true, inR_iff, Bool.not_eq_true', beq_eq_false_iff_ne] using this
theorem MD_len (ev : Int) (l : List Q4) (late : List Int) : (MD ev l late).1.length ≤ late.length := by
  unfold MD; split
  · simp [outD_len]
  · simp
theorem small_many {xs : List Int} {a b : Int} (h : manyIn xs a b 0 1000 = true) : smallD xs := by
  intro i
  rw [List.getD_eq_getElem?_getD]
  by_cases hi : i < xs.length
  · rw [List.getElem?_eq_getElem hi]
    simp only [manyIn, Bool.and_eq_true, List.all_eq_true] at h
    exact inR_iff.1 (h.2.2 _ (List.getElem_mem hi))
  · rw [List.getElem?_eq_none (by omega)]; simp

set_option maxHeartbeats 400000 in
theorem laterC_any (a b c d : Int) (w : World) :
    Calls Try.prog 18 #[.agg #[.int .i64 a, .int .i64 b, .int .i64 c, .int .i64 d]] w fun r w' => r = .returned (.bool (decide (b ≤ a))) ∧ Below w.heap.size w w' := by
  go_enter Try.func18, Try.ntmps18
  go_wp2
  go_ret
  exact ⟨rfl, by go_grown⟩

set_option maxHeartbeats 1000000 in
theorem laterIx_any (v : Value) (l : List Q4) (w : World) (hs : Sl w 4 v l.length (q4s l)) :
    Calls Try.prog 26 #[v, .func (.func 18) #[] #[]] w fun r w' => ∃ j : Int, r = .returned (.int .i64 j) ∧ decide (0 ≤ j) = !laterB l ∧ Below w.heap.size w w' := by
  obtain ⟨A, cap, rfl, hcap, hr⟩ := hs
  have hm := hr.2.1
  unfold maxLen at hm
  generalize hn : l.length = n at *
  have Hn := hd hn
  clear hn
  go_enter Try.func26, Try.ntmps26
  go_wp2
  go_loopw [8] (fun i wr => ∃ k : Nat, k ≤ n ∧ i = .int .i64 k ∧ Hid ((l.take k).all (fun q => decide (q.a < q.b)) = true) ∧ Below w.heap.size w wr) (fun i _ => n - (intOf i).toNat)
  case atStart => exact ⟨0, by omega, rfl, by simp [Hid], Below.refl _ _⟩
  case round =>
    obtain ⟨k, hk, rfl, he, hb⟩ := hrel
    by_cases hlt : k < n
    · obtain ⟨b, off, qa, qb, qc, qd, rfl, hq, c0, c1, c2, c3⟩ := (hr.below hb).q4 hlt
      have Hb := hd hb
      clear hr hb
      have i1 : (0 : Int) ≤ (k : Int) := by omega
      have i2 : (k : Int) < (n : Int) := by omega
      go_wp2_with (go_at_call 18; refine (laterC_any _ _ _ _ _).mono ?_; rintro e w' ⟨rfl, h⟩)
      · have ht : qb ≤ qa := by assumption
        go_ret
        refine ⟨_, rfl, ?_, below_tr h Hb.out⟩
        rw [show laterB l = false from all_false_of hq.out (by simp only [decide_eq_false_iff_not]; omega)]
        simp
      · have ht : qa < qb := by simp_all
        go_roundw
        case rel => exact ⟨k + 1, by omega, by go_num, hd (all_take_of he.out hq.out (by simpa using ht)), below_tr h Hb.out⟩
        case measure => simp [intOf]; omega
    · go_wp2
      go_ret
      refine ⟨_, rfl, ?_, hb⟩
      rw [show laterB l = true from all_whole he.out (by have := Hn.out; omega)]
      rfl

set_option maxHeartbeats 400000 in
theorem laterHas_any (v : Value) (l : List Q4) (w : World) (hs : Sl w 4 v l.length (q4s l)) :
    Calls Try.prog 17 #[v, .func (.func 18) #[] #[]] w fun r w' => r = .returned (.bool (!laterB l)) ∧ Below w.heap.size w w' := by
  have H := hd (laterIx_any v l w hs)
  clear hs
  go_enter Try.func17, Try.ntmps17
  go_wp2_with (go_at_call 26; refine H.out.mono ?_; rintro e w' ⟨j, rfl, hj, hb⟩)
  go_ret
  exact ⟨ret_bool (by first | exact hj | rfl), hb⟩

set_option maxHeartbeats 4000000 in
set_option maxRecDepth 100000 in
theorem SpreadDelays_any (w : World) (ev : Int) (_e : I64 ev) (v : Value) (l : List Q4) (_i : ∀ y ∈ l, y.I64) (_b : l.length ≤ 1048576) (s : Sl w 4 v l.length (q4s l)) (u : Value) (late : List Int) (_j : ∀ y ∈ late, I64 y) (_c : late.length ≤ 1048576) (t : Sl w 1 u late.length (late.map vi)) :
    Calls Try.prog 10 #[.int .i64 ev, v, u] w (OutL 2 1 (MD ev l late).1.length ((MD ev l late).1.map vi) (fun z => .tuple #[z, .bool (MD ev l late).2]) w) := by
  have A1 := hd (AreRules_any ev v l 60 w s)
  have A2 := hd (fun w' h => areMany_any u late ev ev 0 1000 w' (t.below h))
  have A3 := hd (fun w' h => laterHas_any v l w' (s.below h))
  have t0 := hd t
  clear _i _j _b
  obtain ⟨A, cap, rfl, hcap, hr⟩ := s
  cases h1 : rulesB ev 60 l with
  | false =>
    have H := hd (show MD ev l late = ([], false) by rw [MD, h1]; rfl)
    rw [h1] at A1
    clear h1 _e
    go_enter Try.func10, Try.ntmps10
    go_wp2_with (first | (go_at_call 16; refine A1.out.mono ?_; rintro e w' ⟨rfl, hb⟩))
    go_ret2
    rw [H.out]
    exact ⟨_, rfl, World.ownsRow_nil _ _ _ _, hb⟩
  | true =>
    rw [h1] at A1
    cases h2 : manyIn late ev ev 0 1000 with
    | false =>
      have H := hd (show MD ev l late = ([], false) by rw [MD, h1, h2]; rfl)
      rw [h2] at A2
      clear h1 h2 _e
      go_enter Try.func10, Try.ntmps10
      go_wp2_with (first | (go_at_call 16; refine A1.out.mono ?_; rintro e w' ⟨rfl, hb⟩) | (go_at_call 12; refine (A2.out _ hb).mono ?_; rintro e w' ⟨rfl, rfl⟩))
      go_ret2
      rw [H.out]
      exact ⟨_, rfl, World.ownsRow_nil _ _ _ _, hb⟩
    | true =>
      rw [h2] at A2
      cases h3 : laterB l with
      | false =>
        have H := hd (show MD ev l late = ([], false) by rw [MD, h1, h2, h3]; rfl)
        rw [h3] at A3
        clear h1 h2 h3 _e
        go_enter Try.func10, Try.ntmps10
        go_wp2_with (first | (go_at_call 16; refine A1.out.mono ?_; rintro e w' ⟨rfl, hb⟩) | (go_at_call 12; refine (A2.out _ hb).mono ?_; rintro e w1 ⟨rfl, rfl⟩) | (go_at_call 17; refine (A3.out _ hb).mono ?_; rintro e w2 ⟨rfl, hb2⟩))
        go_ret2
        rw [H.out]
        exact ⟨_, rfl, World.ownsRow_nil _ _ _ _, below_tr hb2 hb⟩
      | true =>
        have H := hd (show MD ev l late = (outD l late late.length, true) by rw [MD, h1, h2, h3]; rfl)
        rw [h3] at A3
        have hev : ev = (late.length : Int) := by
          simp only [manyIn, Bool.and_eq_true, decide_eq_true_eq] at h2
          omega
        have hn12 : 1 ≤ late.length ∧ late.length ≤ 12 := by
          simp only [rulesB, Bool.and_eq_true, inR_iff] at h1
          omega
        have RQ := hd (fun k q hq => rules_q h1 (k := k) (q := q) hq)
        have hle : ∀ q ∈ l, q.c ≤ q.d := by
          intro q hq
          obtain ⟨k, hk, rfl⟩ := List.mem_iff_getElem.1 hq
          exact (rules_q h1 (List.getElem?_eq_getElem hk)).2.2.2.2.1
        have SM := hd (fun t (k : Nat) => inD_small hle (outD_small hle (small_many h2) t) k (to := t))
        have OL := hd (fun (t k : Nat) => (inD_len l t (outD l late t) k).trans (outD_len l late t))
        have OL2 := hd (fun (t : Nat) => outD_len l late t)
        have IY := hd (fun (t k : Nat) q h hb => inD_yes (l := l) (to := t) (out := outD l late t) (k := k) (q := q) h hb)
        have IN := hd (fun (t k : Nat) q h hb => inD_no (l := l) (to := t) (out := outD l late t) (k := k) (q := q) h hb)
        have OS := hd (fun t => (show outD l late (t + 1) = inD l t (outD l late t) l.length from rfl))
        have O0 := hd (show outD l late 0 = late from rfl)
        have I0 := hd (fun t => (show inD l t (outD l late t) 0 = outD l late t from rfl))
        have CL := hd (fun w' h => Clone_any u late w' (t0.out.below h) (by omega) (by omega))
        have hl32 : l.length ≤ 32 := by
          simp only [rulesB, Bool.and_eq_true, decide_eq_true_eq] at h1
          omega
        subst hev
        obtain ⟨n1, n2⟩ := hn12
        clear h1 h2 h3 _e t0 t hle _c
        generalize hn : late.length = n at *
        generalize hm : l.length = m at *
        clear hn
        have Hm := hd hm
        clear hm
        go_enter Try.func10, Try.ntmps10
        go_wp2_with (first | (go_at_call 16; refine A1.out.mono ?_; rintro e w0 ⟨rfl, hb⟩) | (go_at_call 12; refine (A2.out _ hb).mono ?_; rintro e w1 ⟨rfl, rfl⟩) | (go_at_call 17; refine (A3.out _ hb).mono ?_; rintro e w2 ⟨rfl, hb2⟩) | (go_at_call 19; refine (CL.out _ (below_tr hb2 hb)).mono ?_; rintro e w3 ⟨z, rfl, ho3, hb3, _⟩))
        clear A1 A2 A3 CL
        have hB3 := below_tr hb3 (below_tr hb2 hb)
        have ho3 := own_mono ho3 (below_tr hb2 hb).size
        clear hb hb2 hb3
        obtain ⟨A4, cap4, rfl, hc4, hr4, hA4⟩ := own_rd ho3 (size_le (by omega))
        obtain ⟨g, rfl, hg1, hg2⟩ : ∃ g, A4 = some ⟨g, 0, none⟩ ∧ w.heap.size ≤ g ∧ g < w3.heap.size := by
          rcases hA4 with ⟨rfl, rfl⟩ | h
          · omega
          · exact h
        clear hr4 hA4
        have Ho := hd ho3; have HB := hd hB3
        clear ho3 hB3
        go_loopw [30] (fun ix wr => ∃ t : Nat, t ≤ n ∧ ix = .int .i64 t ∧ wr.ownsRow w.heap.size 2 1 (.slice (some ⟨g, 0, none⟩) n cap4) n ((outD l late t).map vi) ∧ Below w.heap.size w wr) (fun ix _ => n - (intOf ix).toNat)
        case atStart => exact ⟨0, by omega, rfl, by rw [O0.out]; exact Ho.out, HB.out⟩
        case round =>
          obtain ⟨t, ht, rfl, ho, hb⟩ := hrel
          clear Ho HB
          by_cases hlt : t < n
          · have Ho := hd ho; have Hb := hd hb
            clear ho hb
            go_wp2
            go_loopw [35] (fun ix wr => ∃ k : Nat, k ≤ m ∧ ix = .int .i64 k ∧ wr.ownsRow w.heap.size 2 1 (.slice (some ⟨g, 0, none⟩) n cap4) n ((inD l t (outD l late t) k).map vi) ∧ Below w.heap.size w wr) (fun ix _ => m - (intOf ix).toNat)
            case atStart => exact ⟨0, by omega, rfl, by rw [I0.out]; exact Ho.out, Hb.out⟩
            case round =>
              obtain ⟨k, hk, rfl, ho, hb⟩ := hrel
              clear Ho Hb
              by_cases hkt : k < m
              · obtain ⟨b, off, qa, qb, qc, qd, rfl, hq, c0, c1, c2, c3⟩ := (hr.below hb).q4 hkt
                have hR := RQ.out _ _ hq.out
                simp only at hR
                obtain ⟨⟨r1, r2⟩, ⟨r3, r4⟩, _, ⟨r5, r6⟩, ⟨r7, r8⟩⟩ := hR
                obtain ⟨na, rfl⟩ := Int.eq_ofNat_of_zero_le r1
                obtain ⟨nb, rfl⟩ := Int.eq_ofNat_of_zero_le r3
                have ho' := ho.alloc (.cells #[.int .i64 na, .int .i64 nb, .int .i64 qc, .int .i64 qd] 33)
                by_cases hbt : nb = t
                · subst hbt
                  have hY := IY.out nb k _ hq.out rfl
                  obtain ⟨x1, x2⟩ := SM.out nb k nb
                  obtain ⟨y1, y2⟩ := SM.out nb k na
                  have e1 : ((inD l nb (outD l late nb) k).map vi)[nb]? = some (vi ((inD l nb (outD l late nb) k).getD nb 0)) := by
                    have := OL.out nb k
                    simp [List.getElem?_eq_getElem (show nb < (inD l nb (outD l late nb) k).length by omega), List.getD_eq_getElem?_getD]
                  have e2 : ((inD l nb (outD l late nb) k).map vi)[na]? = some (vi ((inD l nb (outD l late nb) k).getD na 0)) := by
                    have := OL.out nb k
                    simp [List.getElem?_eq_getElem (show na < (inD l nb (outD l late nb) k).length by omega), List.getD_eq_getElem?_getD]
                  simp only [Int.toNat_natCast] at hY
                  generalize (inD l nb (outD l late nb) k).getD nb 0 = x at *
                  generalize (inD l nb (outD l late nb) k).getD na 0 = y at *
                  have E1 := hd e1
                  have E2 := hd e2
                  clear e1 e2
                  rw [← ite_max] at hY
                  have HY := hd hY
                  have Hb := hd (hb.alloc hb.size (.cells #[.int .i64 na, .int .i64 nb, .int .i64 qc, .int .i64 qd] 33))
                  have i1 : (0 : Int) ≤ (nb : Int) := by omega
                  have i2 : (nb : Int) < (n : Int) := by omega
                  have i3 : (0 : Int) ≤ (na : Int) := by omega
                  have i4 : (na : Int) < (n : Int) := by omega
                  have Ho := hd ho'
                  clear hY ho hb ho' RQ SM IY IN hr
                  have D1 := hd (Ho.out.cellAt nb (by omega))
                  have D2 := hd (Ho.out.cellAt na (by omega))
                  go_wp2
                  have bx0 : (wr.alloc (.cells #[.int .i64 na, .int .i64 nb, .int .i64 qc, .int .i64 qd] 33)).cell? ⟨wr.heap.size, 0, none⟩ = some (.int .i64 na) := by simp [go_sem]
                  have bx2 : (wr.alloc (.cells #[.int .i64 na, .int .i64 nb, .int .i64 qc, .int .i64 qd] 33)).cell? ⟨wr.heap.size, 2, none⟩ = some (.int .i64 qc) := by simp [go_sem]
                  have bx3 : (wr.alloc (.cells #[.int .i64 na, .int .i64 nb, .int .i64 qc, .int .i64 qd] 33)).cell? ⟨wr.heap.size, 3, none⟩ = some (.int .i64 qd) := by simp [go_sem]
                  have d1 := D1.out
                  have d2 := D2.out
                  rw [E1.out] at d1
                  rw [E2.out] at d2
                  simp only [vi] at d1 d2
                  clear D1 D2 c0 c1 c2 c3
                  generalize wr.alloc (.cells #[.int .i64 na, .int .i64 nb, .int .i64 qc, .int .i64 qd] 33) = W at *
                  generalize wr.heap.size = gb at *
                  have w1 : IntKind.i64.wrap (qd - qc) = qd - qc := IntWalk.i64_in _ (by omega)
                  have w2 : IntKind.i64.wrap (y - (qd - qc)) = y - (qd - qc) := IntWalk.i64_in _ (by omega)
                  go_still_tail 19, (by kernel_rfl)
                  change wpList _ _ _ _ _ W.drew
                  refine wpList_store_own _ w.heap.size 2 1 n cap4 g ((inD l nb (outD l late nb) k).map vi) Ho.out size_int nb (vi (if x < y - (qd - qc) then y - (qd - qc) else x)) rfl ?_ rfl (by omega) ?_
                  · rfl
                  intro w' h1 h2
                  clear w1 w2 d1 d2 bx0 bx2 bx3
                  go_wp2
                  go_roundw
                  case rel =>
                    refine ⟨k + 1, by omega, by go_num, ?_, below_row h2 (below_drewN Hb.out 1) (by intro j hj; cases hj; exact hg1)⟩
                    rw [HY.out, List.map_set]
                    exact h1
                  case measure => simp [intOf]; omega
                · have hY := IN.out t k _ hq.out (by simp only; omega)
                  have Ho := hd ho; have Hb := hd hb; have HY := hd hY
                  have hbt2 : ¬ ((nb : Int) = (t : Int)) := by omega
                  clear hY ho hb ho' RQ SM IY IN hr
                  go_wp2
                  go_roundw
                  case rel => exact ⟨k + 1, by omega, by go_num, by rw [HY.out]; exact own_below Ho.out ((Below.refl _ _).alloc (Nat.le_refl _) _), Hb.out.alloc Hb.out.size _⟩
                  case measure => simp [intOf]; omega
              · have e : k = m := by omega
                subst e
                have Ho := hd ho; have Hb := hd hb
                clear ho hb
                go_wp2
                go_roundw
                case rel => exact ⟨t + 1, by omega, by go_num, by rw [OS.out]; exact Ho.out, Hb.out⟩
                case measure => simp [intOf]; omega
          · have e : t = n := by omega
            subst e
            go_wp2
            go_ret2
            rw [H.out]
            refine ⟨_, rfl, ?_, hb⟩
            simp only [OL2.out]
            exact ho
end Go.Proofs.Ytnfgnlhpjhndfaa
