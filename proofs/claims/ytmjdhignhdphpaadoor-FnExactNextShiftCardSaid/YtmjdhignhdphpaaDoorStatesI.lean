/- The states of a text of slots, the program's side; whether a text is a shift. -/
import Derived.Test.YtmjdhignhdphpaaDoorProg
import Derived.Test.YtmjdhignhdphpaaDoorIsW
import Derived.Test.YtmjdhignhdphpaaDoorNextM
import Derived.Deep.RegionLaw
import Derived.Deep.RegionLawGrows
namespace Go.Proofs.YtmjdhignhdphpaaDoor
open Go.RowKit Plain
set_option linter.unusedVariables false
set_option linter.unusedSimpArgs false
attribute [local go_sem ↓] Go.wp_at_zero Go.wp_at_succ

/-- a state of the program -/
structure St where
  sl : Int
  wk : Int
  rw : Int
  ps : Int
  bg : Bool
def St.cells (s : St) : List Value := [.int .i64 s.sl, .int .i64 s.wk, .int .i64 s.rw, .int .i64 s.ps, .bool s.bg]
def sts (l : List St) : List Value := l.flatMap St.cells
theorem sts_snoc (l : List St) (s : St) : sts (l ++ [s]) = sts l ++ s.cells := by simp [sts]
theorem sts_len (l : List St) : (sts l).length = l.length * 5 := by
  induction l with
  | nil => rfl
  | cons x l ih => simp only [sts, List.flatMap_cons, List.length_append, List.length_cons] at ih ⊢; rw [ih]; simp [St.cells]; omega
theorem sts_get {l : List St} {k : Nat} {s : St} (h : l[k]? = some s) (j : Nat) (hj : j < 5) : (sts l)[k * 5 + j]? = s.cells[j]? := by
  induction l generalizing k with
  | nil => simp at h
  | cons x l ih =>
    have e : sts (x :: l) = x.cells ++ sts l := by simp [sts]
    rw [e]
    cases k with
    | zero =>
      simp at h
      subst h
      rw [List.getElem?_append_left (by simp [St.cells]; omega)]
      simp
    | succ k =>
      rw [List.getElem?_append_right (by simp [St.cells]; omega), show (k + 1) * 5 + j - x.cells.length = k * 5 + j by simp [St.cells]; omega]
      exact ih (by simpa using h)
/-- the states so far are right, c is the last one -/
structure StsOk (L : ShiftLim) (t : ByteArray) (k : Nat) (l : List St) (c : St) : Prop where
  len : l.length = k + 1
  last : l[k]? = some c
  all : ∀ (j : Nat) (s : St), l[j]? = some s → s.sl = (j : Int) ∧ 0 ≤ s.wk ∧ s.ps ≤ L.pause ∧ goodS L s.wk s.rw s.ps s.bg ∧ runS L t j = some (absS s.wk s.rw s.ps s.bg)
theorem sts_ok_start (L : ShiftLim) (t : ByteArray) (h1 : 0 ≤ L.most) (h2 : 0 ≤ L.row) (h3 : 0 ≤ L.pause) : StsOk L t 0 [⟨0, 0, 0, 0, false⟩] ⟨0, 0, 0, 0, false⟩ :=
  ⟨rfl, rfl, fun j s h => by
    have hj : j = 0 := by have := (List.getElem?_eq_some_iff.1 h).1; simpa using this
    subst hj
    simp at h
    subst h
    exact ⟨rfl, Int.le_refl _, h3, good_start L h1 h2, rfl⟩⟩
theorem sts_ok_snoc {L : ShiftLim} {t : ByteArray} {k : Nat} {l : List St} {c c' : St} (h : StsOk L t k l c) (h' : c'.sl = (k + 1 : Nat) ∧ 0 ≤ c'.wk ∧ c'.ps ≤ L.pause ∧ goodS L c'.wk c'.rw c'.ps c'.bg ∧ runS L t (k + 1) = some (absS c'.wk c'.rw c'.ps c'.bg)) : StsOk L t (k + 1) (l ++ [c']) c' :=
  ⟨by simp [h.len], by rw [List.getElem?_append_right (by rw [h.len]; exact Nat.le_refl _), h.len]; simp, fun j s hs => by
    by_cases hj : j < l.length
    · rw [List.getElem?_append_left hj] at hs
      exact h.all j s hs
    · have hl := (List.getElem?_eq_some_iff.1 hs).1
      have e : j = k + 1 := by simp [h.len] at hl hj; omega
      subst e
      rw [List.getElem?_append_right (by rw [h.len]; exact Nat.le_refl _), h.len] at hs
      simp at hs
      subst hs
      exact h'⟩
theorem infoStA : (Tryd.prog.info? 48).map (fun i => (i.zero, i.size, i.bytes)) = some (some (.agg #[.int .i64 0, .int .i64 0, .int .i64 0, .int .i64 0, .bool false]), 5, 40) := by kernel_rfl
theorem size_st : (Tryd.prog.info? 48).map (·.size) = some 5 := by kernel_rfl
theorem one5 {a b c d : Int} {e : Bool} : (#[Value.int .i64 a, Value.int .i64 b, Value.int .i64 c, Value.int .i64 d, Value.bool e] : Array Value).all (·.oneCell') = true := by simp [Value.oneCell']
theorem cell_five_new (w : World) (x y z u0 p : Value) (t : TypeId) : ∀ j u, [x, y, z, u0, p][j]? = some u → (w.alloc (.cells #[x, y, z, u0, p] t)).cell? ((⟨w.heap.size, 0, none⟩ : Addr).add j) = some u := by
  intro j u hj
  match j, hj with
  | 0, hj => simp at hj; subst hj; simp [Addr.add]
  | 1, hj => simp at hj; subst hj; simp [Addr.add]
  | 2, hj => simp at hj; subst hj; simp [Addr.add]
  | 3, hj => simp at hj; subst hj; simp [Addr.add]
  | 4, hj => simp at hj; subst hj; simp [Addr.add]
theorem wpList_app_st {ops : Array Oper} {rest : List Oper} {o : Oper} {a : Act} {Q : Exit → Act → World → Prop} (w : World) (T : TypeId) (c : St) (hgd : o.guard = none) (s x : Operand)
    (ho : o.op = .call { callee := .builtin .append, args := #[s, x], argTypes := #[35, 35] }) (base n : Nat) (v : Value) (xs : List Value) (hs : a.eval s = v) (hown : w.ownsRow base 48 5 v n xs)
    (g : Nat) (hx : a.eval x = .slice (some ⟨g, 0, none⟩) 1 1) (hg : w.heap.size = g) (hn : n ≤ 1048576) (hbase : base ≤ w.heap.size)
    (h : ∀ v' w', w'.ownsRow base 48 5 v' (n + 1) (xs ++ c.cells) → w.grownBy w' v.ownBlock → Apart w v v' → wpList Tryd.prog ops Q rest (a.put o.dst v') w') :
    wpList Tryd.prog ops Q (o :: rest) a (w.alloc (.cells #[.int .i64 c.sl, .int .i64 c.wk, .int .i64 c.rw, .int .i64 c.ps, .bool c.bg] T)) := by
  subst hg
  obtain ⟨i0, hi, hz0, hz1, hz2⟩ := info_parts infoStA
  refine wpList_append_own_at _ hgd s x 35 ho base 48 i0 _ 5 40 Tryd.underlying35 hi hz0 hz1 hz2 rfl (by decide) v n xs hs (hown.alloc _) ⟨w.heap.size, 0, none⟩ 1 1 c.cells hx rfl (cell_five_new _ _ _ _ _ _ _) (by intro u hu; simp [St.cells] at hu; rcases hu with rfl | rfl | rfl | rfl | rfl <;> rfl) (by unfold maxLen; omega) (by omega) (Nat.le_trans hbase (by simp)) ?_
  intro v' w' h2 h3 _ h5
  exact h v' w' h2 ((below_all ((Below.refl _ w).alloc (Nat.le_refl _) _) _).trans h3) (apart_of (by simp) h5)
/-- five cells stored one by one -/
def set5 (w : World) (g : Nat) (a b c d e : Value) : World := ((((w.setCell ⟨g, 0, none⟩ a).setCell ⟨g, 1, none⟩ b).setCell ⟨g, 2, none⟩ c).setCell ⟨g, 3, none⟩ d).setCell ⟨g, 4, none⟩ e
theorem set5_heap {w : World} {g : Nat} {x0 x1 x2 x3 x4 : Value} {t : TypeId} (h : w.heap[g]? = some (.cells #[x0, x1, x2, x3, x4] t (0, 0))) (a b c d e : Value) : (set5 w g a b c d e).heap[g]? = some (.cells #[a, b, c, d, e] t (0, 0)) := by
  have h1 := heap_setCell_same w g 0 _ t a h
  have h2 := heap_setCell_same _ g 1 _ t b h1
  have h3 := heap_setCell_same _ g 2 _ t c h2
  have h4 := heap_setCell_same _ g 3 _ t d h3
  have h5 := heap_setCell_same _ g 4 _ t e h4
  simpa [set5] using h5
theorem set5_grown (w : World) (g : Nat) (a b c d e : Value) : w.grownBy (set5 w g a b c d e) (some g) :=
  ((((grown_setCell w g 0 a).trans (grown_setCell _ g 1 b)).trans (grown_setCell _ g 2 c)).trans (grown_setCell _ g 3 d)).trans (grown_setCell _ g 4 e)
theorem cbox_free5 {w : World} {g : Nat} {a b c d e : Value} {t : TypeId} (h : CBox w g #[a, b, c, d, e] t) : w.frozen? ⟨g, 0, none⟩ = false ∧ w.frozen? ⟨g, 1, none⟩ = false ∧ w.frozen? ⟨g, 2, none⟩ = false ∧ w.frozen? ⟨g, 3, none⟩ = false ∧ w.frozen? ⟨g, 4, none⟩ = false :=
  ⟨frozen_of_row w g 0 _ t h, frozen_of_row w g 1 _ t h, frozen_of_row w g 2 _ t h, frozen_of_row w g 3 _ t h, frozen_of_row w g 4 _ t h⟩
/-- what the states say: whether the text is a shift; if it is, all of them -/
def StOut (L : ShiftLim) (S : Int) (t : ByteArray) (w : World) (e : Ending) (w' : World) : Prop :=
  ∃ u, e = .returned (.tuple #[u, .bool (isS L S t)]) ∧ Below w.heap.size w w' ∧ (isS L S t = true → ∃ l c, StsOk L t t.size l c ∧ w'.ownsRow w.heap.size 48 5 u l.length (sts l))
theorem cbox_apart {w w' : World} {g B : Nat} {cs : Array Value} {t : TypeId} {v : Value} (h : CBox w g cs t) (hg : w.grownBy w' v.ownBlock) (hv : ∀ k, v.ownBlock = some k → B ≤ k) (hgB : g < B) : CBox w' g cs t := by
  have hlt : g < w.heap.size := (Array.getElem?_eq_some_iff.1 h).1
  exact (hg.block g hlt (fun e => by have := hv g e.symm; omega)).trans h
set_option maxHeartbeats 4000000 in
set_option maxRecDepth 100000 in
theorem states_any (r : SR) (hv : validS r = true) (t : ByteArray) (ht : t.size ≤ maxLen) (w : World) :
    Calls Tryd.prog 13 #[r.val, .string t] w (StOut (limS r) r.slots t w) := by
  have W1 := hd (fun w' => isWork_any t w' ht)
  obtain ⟨b1, b2, b3, b4, b5⟩ := valid_bd hv
  have htm := ht
  unfold maxLen at htm
  obtain ⟨a0, a1, a2, a3, a4⟩ := r
  simp only [SR.val, limS] at *
  obtain ⟨L, hL⟩ : ∃ L : ShiftLim, L = ⟨a1, a2, a3, a4⟩ := ⟨_, rfl⟩
  have HL := hd hL
  rw [← hL]
  by_cases hlen : (t.size : Int) = a0
  · cases hlet : letB t with
    | false =>
      rw [hlet] at W1
      have HE := hd (isS_let (L := L) (S := a0) hlet)
      clear hlet hL
      subst hlen
      go_enter Tryd.func13, Tryd.ntmps13
      go_wp2_with (go_at_call 22; refine (W1.out _).mono ?_; rintro e w1 ⟨rfl, hb1⟩)
      go_ret2
      exact ⟨.slice none 0 0, by rw [HE.out]; rfl, below_tr hb1 ((Below.refl w.heap.size w).alloc (Nat.le_refl _) _), fun h => by rw [HE.out] at h; cases h⟩
    | true =>
      rw [hlet] at W1
      have HNO := hd (fun h => isS_run (L := L) (S := a0) (t := t) h)
      have HEND := hd (fun s h => isS_end (L := L) (s := s) hlen hlet h)
      have HLET := hd (fun k (hk : k < t.size) => let_good hlet hk)
      have HST := hd (sts_ok_start L t (by rw [hL]; exact b3.1) (by rw [hL]; show 0 ≤ a3; omega) (by rw [hL]; show 0 ≤ a4; omega))
      clear hlet hL
      have HV := hd hv
      clear hv
      subst hlen
      have n24 : t.size ≤ 24 := by omega
      have n1 : 1 ≤ t.size := by omega
      clear htm
      go_enter Tryd.func13, Tryd.ntmps13
      go_wp2_with (go_at_call 22; refine (W1.out _).mono ?_; rintro e w1 ⟨rfl, hb1⟩; have HB1 := hd (below_tr hb1 ((Below.refl w.heap.size w).alloc (Nat.le_refl _) (.cells #[.int .i64 (t.size : Int), .int .i64 a1, .int .i64 a2, .int .i64 a3, .int .i64 a4] 26))); have R1 := hd (cbox_below (show CBox _ w.heap.size #[.int .i64 (t.size : Int), .int .i64 a1, .int .i64 a2, .int .i64 a3, .int .i64 a4] 26 from by show (w.alloc _).heap[w.heap.size]? = _; rw [heap_alloc_get, if_pos rfl]) hb1); clear hb1)
      have Z1 := hd (show w.heap.size < w1.heap.size from (Array.getElem?_eq_some_iff.1 R1.out).1)
      have hr0 := World.ownsRow_lit (base := (w1.alloc (.cells #[.int .i64 0, .int .i64 0, .int .i64 0, .int .i64 0, .bool false] 48)).heap.size) (e := 48) (size := 5) (w1.alloc (.cells #[.int .i64 0, .int .i64 0, .int .i64 0, .int .i64 0, .bool false] 48)) #[.int .i64 0, .int .i64 0, .int .i64 0, .int .i64 0, .bool false] 1 (Nat.le_refl _) (by unfold maxLen; omega) rfl
      rw [World.size_alloc] at hr0
      have ROW := hd hr0
      have hbb : Below w1.heap.size w1 ((w1.alloc (.cells #[.int .i64 0, .int .i64 0, .int .i64 0, .int .i64 0, .bool false] 48)).alloc (.cells #[.int .i64 0, .int .i64 0, .int .i64 0, .int .i64 0, .bool false] 48)) := by go_grown
      have HBB := hd (below_tr hbb HB1.out)
      have R2 := hd (cbox_below R1.out hbb)
      have X6 := hd (show CBox ((w1.alloc (.cells #[.int .i64 0, .int .i64 0, .int .i64 0, .int .i64 0, .bool false] 48)).alloc (.cells #[.int .i64 0, .int .i64 0, .int .i64 0, .int .i64 0, .bool false] 48)) w1.heap.size #[.int .i64 0, .int .i64 0, .int .i64 0, .int .i64 0, .bool false] 48 from by unfold CBox; simp only [heap_alloc_get, World.size_alloc]; simp)
      clear hr0 hbb W1 R1 HB1
      obtain ⟨g6, hg6⟩ : ∃ g6, g6 = w1.heap.size := ⟨_, rfl⟩
      have Z6 := hd (show w.heap.size < g6 by rw [hg6]; exact Z1.out)
      rw [← hg6] at ROW X6
      rw [← hg6]
      clear hg6 Z1
      go_loopw [7, 25] (fun ou ix wr => ∃ (k : Nat) (l : List St) (c : St), k ≤ t.size ∧ ix = .int .i64 k ∧ Hid (StsOk L t k l c) ∧ Hid (wr.ownsRow (g6 + 1) 48 5 ou (k + 1) (sts l)) ∧ Hid (CBox wr w.heap.size #[.int .i64 (t.size : Int), .int .i64 a1, .int .i64 a2, .int .i64 a3, .int .i64 a4] 26) ∧ Hid (CBox wr g6 #[.int .i64 c.sl, .int .i64 c.wk, .int .i64 c.rw, .int .i64 c.ps, .bool c.bg] 48) ∧ Hid (Below w.heap.size w wr)) (fun _ ix _ => t.size - (intOf ix).toNat)
      case atStart => exact ⟨0, [⟨0, 0, 0, 0, false⟩], ⟨0, 0, 0, 0, false⟩, by omega, rfl, HST, hd (by simpa [sts, St.cells] using ROW.out), R2, X6, HBB⟩
      case round =>
        clear ROW R2 X6 HBB HST
        obtain ⟨k, l, c, hk, rfl, HS, HR, C2, C6, HB⟩ := hrel
        obtain ⟨c1, c2, c3, c4, c5⟩ := HS.out.all k c HS.out.last
        by_cases hks : k < t.size
        · have hlt' := HLET.out k hks
          obtain ⟨q, hq2, hcod⟩ := letter_at hks
          have k1 : (0 : Int) ≤ (k : Int) := by omega
          have k2 : (k : Int) < (t.size : Int) := by omega
          obtain ⟨p0, p1, p2, p3, _⟩ := id c4
          -- what the state behind this slot is
          have NX : (∃ c' : St, Hid (∀ w', Calls Tryd.prog 17 #[.agg #[.int .i64 (t.size : Int), .int .i64 a1, .int .i64 a2, .int .i64 a3, .int .i64 a4], .agg #[.int .i64 c.sl, .int .i64 c.wk, .int .i64 c.rw, .int .i64 c.ps, .bool c.bg], .bool ((q : Int) == 119)] w' fun r w'' => r = .returned (.tuple #[.agg #[.int .i64 c'.sl, .int .i64 c'.wk, .int .i64 c'.rw, .int .i64 c'.ps, .bool c'.bg], .bool true]) ∧ Below w'.heap.size w' w'') ∧ Hid (c'.sl = (k + 1 : Nat) ∧ 0 ≤ c'.wk ∧ c'.ps ≤ L.pause ∧ goodS L c'.wk c'.rw c'.ps c'.bg ∧ runS L t (k + 1) = some (absS c'.wk c'.rw c'.ps c'.bg))) ∨
              (∃ c' : St, Hid (∀ w', Calls Tryd.prog 17 #[.agg #[.int .i64 (t.size : Int), .int .i64 a1, .int .i64 a2, .int .i64 a3, .int .i64 a4], .agg #[.int .i64 c.sl, .int .i64 c.wk, .int .i64 c.rw, .int .i64 c.ps, .bool c.bg], .bool ((q : Int) == 119)] w' fun r w'' => r = .returned (.tuple #[.agg #[.int .i64 c'.sl, .int .i64 c'.wk, .int .i64 c'.rw, .int .i64 c'.ps, .bool c'.bg], .bool false]) ∧ Below w'.heap.size w' w'') ∧ Hid (runS L t (k + 1) = none)) := by
            have hL := HL.out
            subst hL
            simp only at p1 p2 c3
            have hrs := run_succ c5
            by_cases hqq : q = 119
            · have e : ((q : Int) == 119) = true := by simp; omega
              rw [e]
              rw [hcod, hqq] at hrs
              change runS _ t (k + 1) = stepS _ _ 119 at hrs
              have hM := abs_may ⟨a1, a2, a3, a4⟩ c4
              cases hb : ((c.bg && (decide (c.rw = 0) && decide (c.ps < a4))) || (decide (c.rw = a3) || decide (c.wk = a2))) with
              | true =>
                rw [show (absS c.wk c.rw c.ps c.bg).may ⟨a1, a2, a3, a4⟩ = false by rw [hM]; simp only [hb]; rfl] at hM
                have N := next_no (t.size : Int) a1 a2 a3 a4 c.sl c.wk c.rw c.ps c.bg (by omega) (by omega) (by omega) hb
                simp only [stV] at N
                refine .inr ⟨⟨c.sl + 1, c.wk, c.rw, c.ps, c.bg⟩, hd N, hd ?_⟩
                rw [hrs]
                exact step_no (by rw [abs_may ⟨a1, a2, a3, a4⟩ c4]; simp only [hb]; rfl)
              | false =>
                have hmt : (absS c.wk c.rw c.ps c.bg).may ⟨a1, a2, a3, a4⟩ = true := by rw [abs_may ⟨a1, a2, a3, a4⟩ c4]; simp only [hb]; rfl
                have N := next_yes (t.size : Int) a1 a2 a3 a4 c.sl c.wk c.rw c.ps c.bg (by omega) (by omega) (by omega) c2 (by omega) p3 (by omega) hb
                simp only [stV] at N
                refine .inl ⟨⟨c.sl + 1, c.wk + 1, c.rw + 1, 0, true⟩, hd N, hd ⟨by simp only; omega, by simp only; omega, by simp only; omega, good_on _ c4 hmt, ?_⟩⟩
                rw [hrs, step_w hmt, abs_on]
            · have e : ((q : Int) == 119) = false := by simp; omega
              rw [e]
              rw [hcod, step_f (by omega)] at hrs
              have N := next_free (t.size : Int) a1 a2 a3 a4 c.sl c.wk c.rw c.ps c.bg (by omega) (by omega) (by omega) p0 (by omega) b5.1 b5.2
              simp only [stV] at N
              refine .inl ⟨⟨c.sl + 1, c.wk, 0, min (c.ps + 1) a4, c.bg⟩, hd N, hd ⟨by simp only; omega, c2, by simp only; omega, good_off _ b5.1 (show (0 : Int) ≤ a3 by omega) c4, ?_⟩⟩
              rw [hrs, abs_off ⟨a1, a2, a3, a4⟩ c4]
          have HCK := hd c1
          clear hlt' hcod c5 c4 c3 c2 c1 p0 p1 p2 p3
          obtain ⟨r0, r1, r2, r3, r4⟩ := cbox_cells5 C2.out
          obtain ⟨s0, s1, s2, s3, s4⟩ := cbox_cells5 C6.out
          rcases NX with ⟨c', N, F⟩ | ⟨c', N, F⟩
          · generalize hqb : ((q : Int) == 119) = qb at *

            go_wp2
            go_region_with (go_at_call 17; refine (N.out _).mono ?_; rintro e w4 ⟨rfl, hb4'⟩; have hb4 : Below wr.heap.size wr w4 := below_tr hb4' (Below.refl _ _).drew; clear hb4'; have C64 := hd (cbox_below C6.out hb4); have C24 := hd (cbox_below C2.out hb4); have HR4 := hd (own_below HR.out hb4); have HB4 := hd (below_tr hb4 HB.out); clear hb4; clear s0 s1 s2 s3 s4 r0 r1 r2 r3 r4; obtain ⟨s0, s1, s2, s3, s4⟩ := cbox_cells5 C64.out; obtain ⟨z0, z1, z2, z3, z4⟩ := cbox_free5 C64.out)
            all_goals
              obtain ⟨w5, hw5⟩ : ∃ w5, w5 = set5 w4 g6 (.int .i64 c'.sl) (.int .i64 c'.wk) (.int .i64 c'.rw) (.int .i64 c'.ps) (.bool c'.bg) := ⟨_, rfl⟩
              have HX5 := hd (show CBox w5 g6 #[.int .i64 c'.sl, .int .i64 c'.wk, .int .i64 c'.rw, .int .i64 c'.ps, .bool c'.bg] 48 by rw [hw5]; exact set5_heap C64.out _ _ _ _ _)
              have HG5 := hd (show w4.grownBy w5 (some g6) by rw [hw5]; exact set5_grown _ _ _ _ _ _ _)
              simp only [set5] at hw5
              rw [← hw5]
              clear hw5 s0 s1 s2 s3 s4 z0 z1 z2 z3 z4
              have HB5 := hd (below_row HG5.out HB4.out (fun q hq => by have := Z6.out; cases hq; omega))
              obtain ⟨s0, s1, s2, s3, s4⟩ := cbox_cells5 HX5.out
              have HR5 := hd (own_grown HR4.out HG5.out (Nat.lt_succ_self g6))
              have C25 := hd (cbox_kept C24.out HG5.out (by have := Z6.out; omega))
              have HZ5 := hd (show g6 + 1 ≤ w5.heap.size from (Array.getElem?_eq_some_iff.1 HX5.out).1)
              have hk48 : k + 1 ≤ 1048576 := by omega
              go_wp2_with (at_builtin; go_must (refine wpList_app_st _ _ c' rfl _ _ rfl (g6 + 1) (k + 1) _ _ rfl HR5.out _ rfl rfl hk48 HZ5.out ?_); intro v' w6 ho6 hg6 hap)
              have hrow := own_row HR5.out (Nat.le_refl (g6 + 1))
              go_roundw
              case rel => exact ⟨k + 1, l ++ [c'], c', by omega, by go_num, hd (sts_ok_snoc HS.out F.out), hd (by rw [sts_snoc]; exact ho6), hd (cbox_apart C25.out hg6 hrow (by have := Z6.out; omega)), hd (cbox_apart HX5.out hg6 hrow (Nat.lt_succ_self g6)), hd (below_row hg6 HB5.out (fun q hq => by have := hrow q hq; have := Z6.out; omega))⟩
              case measure => simp [intOf]; omega
          · generalize hqb : ((q : Int) == 119) = qb at *
            have HE := hd (HNO.out (run_none F.out t.size (by omega)))
            go_wp2
            go_region_with (go_at_call 17; refine (N.out _).mono ?_; rintro e w4 ⟨rfl, hb4'⟩; have hb4 : Below wr.heap.size wr w4 := below_tr hb4' (Below.refl _ _).drew; clear hb4'; have C64 := hd (cbox_below C6.out hb4); have C24 := hd (cbox_below C2.out hb4); have HR4 := hd (own_below HR.out hb4); have HB4 := hd (below_tr hb4 HB.out); clear hb4; clear s0 s1 s2 s3 s4 r0 r1 r2 r3 r4; obtain ⟨s0, s1, s2, s3, s4⟩ := cbox_cells5 C64.out; obtain ⟨z0, z1, z2, z3, z4⟩ := cbox_free5 C64.out)
            all_goals
              obtain ⟨w5, hw5⟩ : ∃ w5, w5 = set5 w4 g6 (.int .i64 c'.sl) (.int .i64 c'.wk) (.int .i64 c'.rw) (.int .i64 c'.ps) (.bool c'.bg) := ⟨_, rfl⟩
              have HX5 := hd (show CBox w5 g6 #[.int .i64 c'.sl, .int .i64 c'.wk, .int .i64 c'.rw, .int .i64 c'.ps, .bool c'.bg] 48 by rw [hw5]; exact set5_heap C64.out _ _ _ _ _)
              have HG5 := hd (show w4.grownBy w5 (some g6) by rw [hw5]; exact set5_grown _ _ _ _ _ _ _)
              simp only [set5] at hw5
              rw [← hw5]
              clear hw5 s0 s1 s2 s3 s4 z0 z1 z2 z3 z4
              have HB5 := hd (below_row HG5.out HB4.out (fun q hq => by have := Z6.out; cases hq; omega))
              go_wp2
              go_ret2
              exact ⟨.slice none 0 0, by rw [HE.out]; rfl, HB5.out, fun h => by rw [HE.out] at h; cases h⟩
        · have e : k = t.size := by omega
          have HE := hd (HEND.out _ (by rw [← e]; exact c5))
          have hle1 : L.least = a1 := by rw [HL.out]
          rw [hle1] at HE
          change Hid (isS L (t.size : Int) t = decide (a1 ≤ c.wk)) at HE
          have HRR := hd (own_mono HR.out (show w.heap.size ≤ g6 + 1 by have := Z6.out; omega))
          have HS2 := hd (show StsOk L t t.size l c by rw [← e]; exact HS.out)
          have HLL := hd (show l.length = k + 1 from HS.out.len)
          clear c5 c4 c3 c2 c1 hle1
          obtain ⟨r0, r1, r2, r3, r4⟩ := cbox_cells5 C2.out
          obtain ⟨s0, s1, s2, s3, s4⟩ := cbox_cells5 C6.out
          subst e
          go_wp2
          go_quiet (fail)
          go_wp2
          go_ret2
          refine ⟨u7, by rw [HE.out]; rfl, below_drewN HB.out _, fun _ => ⟨l, c, HS2.out, ?_⟩⟩
          rw [HLL.out]
          exact own_drwB HRR.out _
  · have HE := hd (isS_len (L := L) hlen)
    clear hL
    have hne : ((t.size : Int) != a0) = true := by simp; exact hlen
    go_enter Tryd.func13, Tryd.ntmps13
    go_wp2
    go_ret2
    exact ⟨.slice none 0 0, by rw [HE.out]; rfl, (Below.refl w.heap.size w).alloc (Nat.le_refl _) _, fun h => by rw [HE.out] at h; cases h⟩
end Go.Proofs.YtmjdhignhdphpaaDoor
