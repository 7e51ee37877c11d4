/- The first ring of a size, in the program. -/
import Derived.Test.YtclkgfcehmmgaaaProg
import Derived.Test.YtclkgfcehmmgaaaSlowI
namespace Go.Proofs.Ytclkgfcehmmgaaa
open Go.RowKit Plain
set_option linter.unusedVariables false
set_option linter.unusedSimpArgs false
attribute [local go_sem ↓] Go.wp_at_zero Go.wp_at_succ

theorem alloc_at {w : World} {o : Obj} {k : Nat} (hk : k = w.heap.size) : (w.alloc o).heap[k]? = some o := by rw [heap_alloc_get, if_pos hk]
theorem alloc_old {w : World} {o x : Obj} {k : Nat} (h : w.heap[k]? = some o) : (w.alloc x).heap[k]? = some o := by
  rw [heap_alloc_get, if_neg (by have := heap_lt h; omega)]; exact h
theorem box_cell {w : World} {g : Nat} {v : Value} {t : TypeId} (h : w.heap[g]? = some (.cells #[v] t (0, 0))) : w.cell? ⟨g, 0, none⟩ = some v := by
  simpa using cell_of_row w g 0 #[v] t (0, 0) h
theorem size_put : (Try.prog.info? 56).map (·.size) = some 1 := by kernel_rfl
theorem rowS_zero : List.replicate 12 (Value.bool false) = rowS 0 := by
  apply List.ext_getElem?
  intro j
  by_cases hj : j < 12
  · rw [rowS_get _ hj, List.getElem?_replicate, if_pos hj]; simp
  · rw [List.getElem?_eq_none (by simp; omega), rowS, List.getElem?_eq_none (by simp; omega)]
def setFromR : List Value → Nat → List Value → List Value
  | xs, _, [] => xs
  | xs, o, v :: r => setFromR (xs.set o v) (o + 1) r
theorem own_setCellsR {base size n cap g : Nat} {e : TypeId} (vs : List Value) : ∀ (w : World) (o : Nat) (xs : List Value), w.ownsRow base e size (.slice (some ⟨g, 0, none⟩) n cap) n xs → (w.setCells g o vs).ownsRow base e size (.slice (some ⟨g, 0, none⟩) n cap) n (setFromR xs o vs) ∧ w.grownBy (w.setCells g o vs) (some g) := by
  induction vs with
  | nil => intro w o xs h; exact ⟨h, ⟨rfl, rfl, rfl, Nat.le_refl _, fun _ _ _ => rfl⟩⟩
  | cons v vs ih =>
    intro w o xs h
    have h1 := h.stored o v
    have h2 := ih _ (o + 1) _ h1.1
    exact ⟨h2.1, h1.2.trans h2.2⟩
theorem setFromR_get (vs : List Value) : ∀ (xs : List Value) (o j : Nat), o + vs.length ≤ xs.length → (setFromR xs o vs)[j]? = if o ≤ j ∧ j < o + vs.length then vs[j - o]? else xs[j]? := by
  induction vs with
  | nil => intro xs o j _; rw [if_neg (by simp only [List.length_nil]; omega)]; rfl
  | cons v vs ih =>
    intro xs o j h
    simp only [List.length_cons] at h ⊢
    rw [setFromR, ih _ _ _ (by simp; omega)]
    by_cases h1 : o + 1 ≤ j ∧ j < o + 1 + vs.length
    · rw [if_pos h1, if_pos (by omega), show j - o = j - (o + 1) + 1 by omega]; rfl
    · rw [if_neg h1, List.getElem?_set]
      by_cases h2 : o = j
      · subst h2; rw [if_pos rfl, if_pos (by omega), if_pos (by omega), Nat.sub_self]; rfl
      · rw [if_neg h2, if_neg (by omega)]
theorem setFromR_all {xs vs : List Value} (h : xs.length = vs.length) : setFromR xs 0 vs = vs := by
  apply List.ext_getElem?
  intro j
  rw [setFromR_get _ _ _ _ (by omega)]
  by_cases hj : j < vs.length
  · rw [if_pos (by omega)]; rfl
  · rw [if_neg (by omega), List.getElem?_eq_none (by omega), List.getElem?_eq_none (by omega)]
set_option maxRecDepth 100000 in
theorem clear_runR (w : World) (base p g : Nat) (l : List Value) (hp : 0 < p) (h : w.ownsRow base 4 1 (.slice (some ⟨g, 0, none⟩) p p) p l) :
    ∃ w', (∀ ty, (Builtin.clear_ #[72] ty #[.slice (some ⟨g, 0, none⟩) p p]).run Try.prog w = .ok (.tuple #[]) w') ∧ Hid (w'.ownsRow base 4 1 (.slice (some ⟨g, 0, none⟩) p p) p (List.replicate p (.bool false)) ∧ w.grownBy w' (some g)) := by
  have hl := h.1
  have hr := fun ty => Lib.run_clear_slice (P := Try.prog) w 72 4 ty (.bool false) Try.underlying72 (by intro w; rfl) rfl rfl g 0 p p hp (fun j hj => by rw [Nat.zero_add, h.cellAt j (by omega), List.getElem?_eq_getElem (by omega)]; rfl) (fun j hj => by rw [Nat.zero_add]; exact h.frozenAt j)
  have ho := own_setCellsR (List.replicate p (.bool false)) w 0 l h
  rw [setFromR_all (by simp; omega)] at ho
  exact ⟨_, hr, by simpa [Hid] using ho⟩

theorem sm_of {w : World} {base : Nat} {A : Option Addr} {cap : Nat} {x : Value} (h : w.ownsRow base 2 1 (.slice A 1 cap) 1 [x]) : ∃ g c, Value.slice A 1 cap = .slice (some ⟨g, 0, none⟩) 1 c := by
  rcases h.2 with ⟨h5, h6⟩ | ⟨g, cap', cur, h5, h6⟩
  · cases h6
  · exact ⟨g, cap', h5⟩
/-- a ring, or none -/
def RingPost (l : List Q4) (z : Q4 → Int) (size : Nat) (w : World) (e : Ending) (w' : World) : Prop :=
  Below w.heap.size w w' ∧ ((ringF l z size = none ∧ e = .returned (.slice none 0 0)) ∨ ∃ p u, ringF l z size = some p ∧ e = .returned u ∧ (∃ g cap, u = .slice (some ⟨g, 0, none⟩) p.length cap) ∧ w'.ownsRow w.heap.size 2 1 u p.length (p.map fun i : Nat => vi (i : Int)))
set_option maxHeartbeats 4000000 in
set_option maxRecDepth 100000 in
theorem ringOf_any (l : List Q4) (n size : Nat) (lg q : Int) (w : World) (v : Value) (hs : Sl w 4 v n (q4s l)) (hl : l.length = n) (n32 : n ≤ 32) (ha : ∀ a ∈ l, arcB (12 : Int) a = true) (l0 : 0 ≤ lg) (l1 : lg ≤ 12000) (q0 : 1 ≤ q) (q1 : q ≤ 120) (s1 : 1 ≤ size) (s2 : size ≤ 12) :
    Calls Try.prog 35 #[v, .int .i64 lg, .int .i64 q, .int .i64 size] w (RingPost l (fun a => q * a.c - lg * a.d) size w) := by
  obtain ⟨A, cap, rfl, hcap, hr⟩ := hs
  have HL := hd hl
  have HA := hd hr
  have HAR := hd ha
  clear hl hr ha
  go_enter Try.func35, Try.ntmps35
  go_upto_region 5 with (first
    | (at_make; go_must (refine wpList_make_bool _ rfl _ rfl _ _ 12 rfl rfl (by omega) ?_); intro w1 ho1 hb1)
    | ((with_reducible refine wpList_store_box _ (w1.heap.size + 1) #[.nilFunc] 56 ?_ size_put 0 (.func (.func 52) #[] #[.pointer (some ⟨w.heap.size, 0, none⟩), .pointer (some ⟨w.heap.size + 1 + 1 + 1 + 1 + 1, 0, none⟩), .pointer (some ⟨w.heap.size + 1 + 1 + 1, 0, none⟩), .pointer (some ⟨w1.heap.size, 0, none⟩), .pointer (some ⟨w.heap.size + 1, 0, none⟩), .pointer (some ⟨w.heap.size + 1 + 1, 0, none⟩), .pointer (some ⟨w1.heap.size + 1, 0, none⟩)]) ?_ ?_ ?_ ?_ ?_); (simp only [heap_alloc_get, World.size_alloc]; simp); exact rfl; exact rfl; exact rfl; exact (show 0 < 1 by decide); intro w2 hx2 hg2))
  have hz : w.heap.size + 7 ≤ w1.heap.size := by
    have h2 := (World.ownsRow.lt ho1 _ rfl).2
    simp at h2
    omega
  have G0 := (hb1.block w.heap.size (by simp; omega)).trans (alloc_old (alloc_old (alloc_old (alloc_old (alloc_old (alloc_at rfl))))))
  have G1 := (hb1.block (w.heap.size + 1) (by simp)).trans (alloc_old (alloc_old (alloc_old (alloc_old (alloc_at (by simp))))))
  have G2 := (hb1.block (w.heap.size + 1 + 1) (by simp)).trans (alloc_old (alloc_old (alloc_old (alloc_at (by simp)))))
  have G3 := (hb1.block (w.heap.size + 1 + 1 + 1) (by simp)).trans (alloc_old (alloc_old (alloc_at (by simp))))
  have G4 := (hb1.block (w.heap.size + 1 + 1 + 1 + 1) (by simp)).trans (alloc_old (alloc_at (by simp)))
  have G5 := (hb1.block (w.heap.size + 1 + 1 + 1 + 1 + 1) (by simp)).trans (alloc_at (by simp))
  have hbw : Below w.heap.size w w1 := below_tr hb1 ((((((((Below.refl _ w).alloc (Nat.le_refl _) _).alloc (by simp) _).alloc (by simp; omega) _).alloc (by simp; omega) _).alloc (by simp; omega) _).alloc (by simp; omega) _))
  have LF := fun (k : Nat) (o : Obj) (h : w1.heap[k]? = some o) => (hg2.block k (by have := heap_lt h; simp; omega) (fun e => by have := heap_lt h; have := Option.some.inj e; omega)).trans (alloc_old (alloc_old h))
  have hbS := (hg2.block w1.heap.size (by simp; omega) (fun e => by have := Option.some.inj e; omega)).trans (alloc_old (alloc_at rfl))
  have hbw2 : Below w.heap.size w w2 := below_row hg2 ((hbw.alloc (by omega) _).alloc (by simp; omega) _) (fun k e => by have := Option.some.inj e; omega)
  have hP2 : PutB w2 A n cap size lg q w.heap.size (w.heap.size + 1 + 1 + 1 + 1 + 1) (w.heap.size + 1 + 1 + 1) w1.heap.size (w.heap.size + 1) (w.heap.size + 1 + 1) (w1.heap.size + 1) (w.heap.size + 1 + 1 + 1 + 1 + 1 + 1) :=
    ⟨box_cell (LF _ _ G0), box_cell (LF _ _ G3), box_cell hbS, box_cell (LF _ _ G1), box_cell (LF _ _ G2), box_cell hx2⟩
  have hO2 : PutO w2 w.heap.size (w.heap.size + 1 + 1 + 1 + 1 + 1) (w.heap.size + 1 + 1 + 1 + 1 + 1 + 1) (.slice (some ⟨w.heap.size + 1 + 1 + 1 + 1, 0, none⟩) 0 0) [] (rowS 0) := by
    refine ⟨LF _ _ G5, ⟨rfl, .inr ⟨_, 0, #[], rfl, by omega, LF _ _ G4, Nat.le_refl _, by unfold maxLen; omega, rfl, rfl⟩⟩, ⟨_, _, rfl⟩, ?_⟩
    rw [← rowS_zero]
    have h := own_mono ho1 (show w.heap.size ≤ _ by simp; omega)
    have h2 := ((h.alloc _).alloc _).kept hg2 (.inr (fun e => by have := Option.some.inj e; simp at this; omega))
    simpa using h2
  have h1 : NeP w.heap.size (w.heap.size + 1 + 1 + 1) w1.heap.size (w.heap.size + 1) (w.heap.size + 1 + 1) (w1.heap.size + 1) (w.heap.size + 1 + 1 + 1 + 1 + 1) := by unfold NeP; omega
  have h2 : NeP w.heap.size (w.heap.size + 1 + 1 + 1) w1.heap.size (w.heap.size + 1) (w.heap.size + 1 + 1) (w1.heap.size + 1) (w.heap.size + 1 + 1 + 1 + 1 + 1 + 1) := by unfold NeP; omega
  have h3 : w.heap.size + 1 + 1 + 1 + 1 + 1 ≠ w.heap.size + 1 + 1 + 1 + 1 + 1 + 1 := by omega
  have h4 : NeO w.heap.size (w.heap.size + 1 + 1 + 1 + 1 + 1) (w.heap.size + 1 + 1 + 1) w1.heap.size (w.heap.size + 1) (w.heap.size + 1 + 1) (w1.heap.size + 1) (w.heap.size + 1 + 1 + 1 + 1 + 1 + 1) (.slice (some ⟨w.heap.size + 1 + 1 + 1 + 1, 0, none⟩) 0 0) := fun k e => by
    have hk : w.heap.size + 1 + 1 + 1 + 1 = k := Option.some.inj e
    unfold NeP
    omega
  have h5 : w.heap.size ≤ w.heap.size + 1 + 1 + 1 + 1 + 1 ∧ w.heap.size ≤ w.heap.size + 1 + 1 + 1 + 1 + 1 + 1 := by omega
  clear G0 G1 G2 G3 G4 G5 LF hbS hbw hx2 hg2 ho1 hb1 hz
  generalize w.heap.size + 1 + 1 + 1 + 1 + 1 + 1 = gS at *
  generalize w.heap.size + 1 + 1 + 1 + 1 + 1 = bO at *
  generalize w.heap.size + 1 + 1 + 1 + 1 = gO at *
  generalize w.heap.size + 1 + 1 + 1 = bZ at *
  generalize w.heap.size + 1 + 1 = bB at *
  generalize w.heap.size + 1 = bL at *
  generalize w1.heap.size + 1 = bP at *
  generalize w1.heap.size = bS at *
  have HB2 := hd hbw2
  have HP2 := hd hP2
  have HO2 := hd hO2
  have H1 := hd h1
  have H2 := hd h2
  have H3 := hd h3
  have H4 := hd h4
  have H5 := hd h5
  have cA := hP2.a
  clear hbw2 hP2 hO2 h1 h2 h3 h4 h5
  obtain ⟨u0, hu0⟩ : ∃ u, u = Value.slice (some ⟨gO, 0, none⟩) 0 0 := ⟨_, rfl⟩
  rw [← hu0] at HO2 H4
  have HU0 := hd hu0
  clear hu0
  obtain ⟨z, hz⟩ : ∃ z : Q4 → Int, z = fun a => q * a.c - lg * a.d := ⟨_, rfl⟩
  have HZ := hd hz
  clear hz
  go_wp2
  clear cA
  go_loopw [19] (fun ix wr => ∃ (k : Nat) (u' : Value), k ≤ n ∧ ix = .int .i64 k ∧ Hid (∀ j a, j < k → l[j]? = some a → topF l z size j a = none) ∧ Hid (Kept w2 wr bO gS u0) ∧ Hid (LaterS w2 u0 u') ∧ Hid (∃ way sn, PutO wr w.heap.size bO gS u' way sn)) (fun ix _ => n - (intOf ix).toNat)
  case atStart => exact ⟨0, u0, by omega, rfl, hd (fun j a hj => absurd hj (by omega)), hd (Kept.refl _ _ _ _), hd (LaterS.refl _ _), hd ⟨_, _, HO2.out⟩⟩
  case round =>
    obtain ⟨k, u', hk, rfl, HF, HK, HLt, HO'⟩ := hrel
    have hub : ∀ k, u0.ownBlock = some k → w.heap.size ≤ k := fun k e => (World.ownsRow.lt HO2.out.row k e).1
    have HB1 := hd (HK.out.below HB2.out (Nat.le_refl _) H5.out.1 H5.out.2 hub)
    by_cases hlt : k < n
    · have HP1 := hd (HP2.out.kept HK.out H1.out H2.out (fun k e => (H4.out k e).1))
      obtain ⟨bb, off, x, y, c, d, rfl, hq, e0, e1, e2, e3⟩ := (HA.out.below HB1.out).q4 hlt
      have hab := HAR.out _ (List.mem_of_getElem? hq.out)
      obtain ⟨⟨x0, x1⟩, ⟨y0, y1⟩, ⟨c0, c1⟩, ⟨d0, d1⟩⟩ := arcB_iff.1 hab
      obtain ⟨zv, hzv⟩ : ∃ zv, zv = q * c - lg * d := ⟨_, rfl⟩
      have zb : -240000 ≤ zv ∧ zv ≤ 240000 := by
        have a1 : 0 ≤ q * c := Int.mul_nonneg (by omega) c0
        have a2 : q * c ≤ 120 * 1000 := Int.mul_le_mul q1 c1 c0 (by omega)
        have a3 : 0 ≤ lg * d := Int.mul_nonneg l0 d0
        have a4 : lg * d ≤ 12000 * 10 := Int.mul_le_mul l1 d1 d0 (by omega)
        omega
      have HG := hd (show topF l z size k ⟨x, y, c, d⟩ = (if y < x then none else if size = 1 then (if y = x ∧ zv = 0 then some [k] else none) else if y = x then none else (goR l z x (size - 1) y (2 ^ x.toNat ||| 2 ^ y.toNat) zv).map (k :: ·)) by rw [topF, show z ⟨x, y, c, d⟩ = zv by rw [HZ.out, hzv]])
      have HSK := hd (fun (h : topF l z size k ⟨x, y, c, d⟩ = none) => show ∀ j a, j < k + 1 → l[j]? = some a → topF l z size j a = none from fun j a hj ha => by
        rcases Nat.lt_or_ge j k with h4 | h4
        · exact HF.out j a h4 ha
        · obtain rfl : j = k := by omega
          rw [hq.out] at ha
          cases ha
          exact h)
      have HFND := hd (fun (p : List Nat) (hx : topF l z size k ⟨x, y, c, d⟩ = some p) => show ringF l z size = some p from firstF_at (m := k) (a := ⟨x, y, c, d⟩) (fun j a hj ha => by rw [Nat.zero_add]; exact HF.out j a hj ha) hq.out (by rw [Nat.zero_add]; exact hx))
      have HW := hd (fun w' => by have h := weight_any x y c d lg q w' c0 c1 d0 d1 (by omega) (by omega) (by omega) (by omega); rw [← hzv] at h; exact h)
      clear hab hzv hq hub
      go_upto_region 8 with fail
      obtain ⟨W, hW⟩ : ∃ W, W = wr.alloc (.cells #[.int .i64 x, .int .i64 y, .int .i64 c, .int .i64 d] 37) := ⟨_, rfl⟩
      rw [← hW]
      have k0 : W.cell? ⟨wr.heap.size, 0, none⟩ = some (.int .i64 x) := by rw [hW]; exact (World.cell?_alloc_new ..).trans rfl
      have k1 : W.cell? ⟨wr.heap.size, 1, none⟩ = some (.int .i64 y) := by rw [hW]; exact (World.cell?_alloc_new ..).trans rfl
      have k2 : W.cell? ⟨wr.heap.size, 2, none⟩ = some (.int .i64 c) := by rw [hW]; exact (World.cell?_alloc_new ..).trans rfl
      have k3 : W.cell? ⟨wr.heap.size, 3, none⟩ = some (.int .i64 d) := by rw [hW]; exact (World.cell?_alloc_new ..).trans rfl
      have hbW : Below wr.heap.size wr W := by rw [hW]; exact (Below.refl _ _).alloc (Nat.le_refl _) _
      have HKW := hd (HK.out.trans (Kept.of_below hbW bO gS _) HLt.out)
      have HPW := hd (HP1.out.below hbW)
      have HOW := hd (show ∃ way sn, PutO W w.heap.size bO gS u' way sn from HO'.out.elim fun way h => h.elim fun sn h => ⟨way, sn, h.below hbW⟩)
      have HBW := hd (below_tr hbW HB1.out)
      have HGW := hd (show wr.heap.size < W.heap.size by rw [hW]; simp)
      have HRN := hd (show wr.heap.size ≠ bO ∧ wr.heap.size ≠ gS ∧ u'.ownBlock ≠ some wr.heap.size from by
        obtain ⟨way, sn, h⟩ := HO'.out
        exact ⟨by have := heap_lt h.box; omega, by have := (World.ownsRow.lt h.seen gS rfl).2; omega, fun e => by have := (World.ownsRow.lt h.row _ e).2; omega⟩)
      clear hW hbW e0 e1 e2 e3 HP1 HO' HK HB1
      have pz := HPW.out.z
      have pl := HPW.out.l
      have pb := HPW.out.b
      by_cases c2 : y < x
      · have E := hd (HSK.out (by rw [HG.out, if_pos c2]))
        go_wp2
        go_roundw
        case rel => exact ⟨k + 1, _, by omega, by go_num, E, HKW, HLt, HOW⟩
        case measure => simp [intOf]; omega
      · by_cases c3 : y = x
        · subst c3
          by_cases c4 : size = 1
          · have c4b : ((size : Int) == 1) = true := by simp [c4]
            by_cases c5 : zv = 0
            · have E := hd (HFND.out [k] (by rw [HG.out, if_neg c2, if_pos c4, if_pos ⟨rfl, c5⟩]))
              clear c4
              go_wp2_with (go_at_call 51; refine (HW.out _).mono ?_; rintro e w5 ⟨rfl, hb5⟩)
              go_ret
              have hl1 := World.ownsRow_lit (base := w.heap.size) (size := 1) w5 #[.int .i64 (k : Int)] 1 (Nat.le_trans HBW.out.size hb5.size) (by unfold maxLen; omega) rfl (e := 2)
              exact ⟨(below_tr hb5 HBW.out).alloc (Nat.le_trans HBW.out.size hb5.size) _, .inr ⟨[k], _, by rw [← HZ.out]; exact E.out, rfl, ⟨_, _, rfl⟩, hl1⟩⟩
            · have E := hd (HSK.out (by rw [HG.out, if_neg c2, if_pos c4, if_neg (fun h => c5 h.2)]))
              clear c4
              go_wp2_with (go_at_call 51; refine (HW.out _).mono ?_; rintro e w5 ⟨rfl, hb5⟩)
              go_roundw
              case rel => exact ⟨k + 1, _, by omega, by go_num, E, hd (HKW.out.trans (Kept.of_below hb5 bO gS _) HLt.out), HLt, hd (HOW.out.elim fun way h => h.elim fun sn h => ⟨way, sn, h.below hb5⟩)⟩
              case measure => simp [intOf]; omega
          · have E := hd (HSK.out (by rw [HG.out, if_neg c2, if_neg c4, if_pos rfl]))
            have c4i : ¬ (size : Int) = 1 := by omega
            have c4b : ((size : Int) == 1) = false := by simp [c4i]
            go_wp2
            go_roundw
            case rel => exact ⟨k + 1, _, by omega, by go_num, E, HKW, HLt, HOW⟩
            case measure => simp [intOf]; omega
        · have c3b : (y == x) = false := by simp [c3]
          by_cases c4 : size = 1
          · have c4b : ((size : Int) == 1) = true := by simp [c4]
            have E := hd (HSK.out (by rw [HG.out, if_neg c2, if_pos c4, if_neg (fun h => c3 h.1)]))
            clear c4
            go_wp2
            go_roundw
            case rel => exact ⟨k + 1, _, by omega, by go_num, E, HKW, HLt, HOW⟩
            case measure => simp [intOf]; omega
          · have c4i : ¬ (size : Int) = 1 := by omega
            have c4b : ((size : Int) == 1) = false := by simp [c4i]
            have HR2 := hd (show ∃ r, size = r + 2 from ⟨size - 2, by omega⟩)
            have hu8 := ne_later (B := w.heap.size) HP2.out HO2.out H4.out HLt.out
            have HN' := hd hu8
            obtain ⟨way, sn, ho⟩ := HOW.out
            obtain ⟨gu, cu, hgu⟩ := ho.sm
            subst hgu
            have hc0 := own_cut ho.row (Nat.zero_le _)
            rw [List.take_zero] at hc0
            have HC0 := hd hc0
            have HOX := hd ho
            have oc := ho.cell
            have ps := HPW.out.s
            have gbO : gu ≠ bO := (HN'.out gu rfl).2.1
            have ggS : gu ≠ gS := (HN'.out gu rfl).2.2
            clear hu8 hc0 ho
            go_wp2_with (first
              | (at_builtin; go_must (refine wpList_app_int _ _ _ rfl _ _ rfl w.heap.size 0 _ _ rfl HC0.out rfl _ rfl (by simp) (by omega) HBW.out.size ?_); intro v6 w6 ho6 hg6 hap6; obtain ⟨A6, cap6, rfl, _, _, _⟩ := own_rd ho6 (by unfold maxLen; omega); replace hg6 : W.grownBy w6 (Value.slice (some ⟨gu, 0, none⟩) way.length cu).ownBlock := hg6; have HL6 := hd (show LaterS W (.slice (some ⟨gu, 0, none⟩) way.length cu) (.slice A6 1 cap6) from fun q hq => later_apart hap6 q hq); have HK6 := hd (Kept.of_row hg6 bO gS); have HB6 := hd (show w6.heap[bO]? = some (.cells #[.slice (some ⟨gu, 0, none⟩) way.length cu] 29 (0, 0)) by rw [hg6.block bO (heap_lt HOX.out.box) (fun e => gbO (Option.some.inj e).symm)]; exact HOX.out.box); have HO6 := hd (show w6.ownsRow w.heap.size 2 1 (.slice A6 1 cap6) 1 [.int .i64 (k : Int)] from ho6); have HG6 := hd hg6; clear ho6 hg6 hap6 oc)
              | ((with_reducible refine wpList_store_box _ bO _ _ HB6.out size_sl 0 (.slice A6 1 cap6) ?_ ?_ ?_ ?_ ?_); exact rfl; exact rfl; exact rfl; exact Nat.one_pos; intro w7 hx7 hg7; have hN6 := ne_later HPW.out HOX.out HN'.out HL6.out; have HN6 := hd hN6; have HO7 := hd (show PutO w7 w.heap.size bO gS (.slice A6 1 cap6) [k] sn from ⟨hx7, HO6.out.kept hg7 (.inr (fun e => (hN6 bO e).2.1 rfl)), sm_of HO6.out, (HOX.out.seen.kept HG6.out (.inr (fun e => ggS (Option.some.inj e).symm))).kept hg7 (.inr (fun e => H3.out (Option.some.inj e).symm))⟩); have HK7 := hd (HK6.out.trans (Kept.of_box hg7 gS _) HL6.out); have HP7 := hd (HPW.out.kept HK7.out H1.out H2.out (fun q e => (HN'.out q e).1)); have ps7 := HP7.out.s; obtain ⟨w8, hrun, HC⟩ := clear_runR w7 w.heap.size 12 gS _ (by decide) HO7.out.seen; clear hx7 hg7 hN6 ps pz pl pb))
            obtain ⟨xn, rfl⟩ : ∃ xn : Nat, x = xn := ⟨x.toNat, by omega⟩
            obtain ⟨yn, rfl⟩ : ∃ yn : Nat, y = yn := ⟨y.toNat, by omega⟩
            have hx12 : xn < 12 := by omega
            have hy12 : yn < 12 := by omega
            have hc8 := HC.out.1
            rw [rowS_zero] at hc8
            have HO8 := hd (HO7.out.see hc8 HC.out.2 H3.out (fun e => (HN6.out gS e).2.2 rfl))
            have HK8 := hd (HK7.out.trans (Kept.of_seen HC.out.2 bO (.slice A6 1 cap6)) HL6.out)
            have HP8 := hd (HPW.out.kept HK8.out H1.out H2.out (fun q e => (HN'.out q e).1))
            have HA8 := hd (show ArcAt w8 wr.heap.size xn yn c d from ArcAt.kept ⟨k0, k1, k2, k3⟩ HK8.out HRN.out.1 HRN.out.2.1 HRN.out.2.2)
            have s8 := HP8.out.s
            obtain ⟨z0, z1, z2, z3⟩ := HA8.out
            have cx := hc8.cellAt xn (by omega)
            rw [rowS_get 0 hx12, Nat.zero_testBit] at cx
            have cy := hc8.cellAt yn (by omega)
            rw [rowS_get 0 hy12, Nat.zero_testBit] at cy
            have fx := hc8.frozenAt xn
            have fy := hc8.frozenAt yn
            have hxy : xn ≠ yn := fun e => c3 (by omega)
            have hyx : yn ≠ xn := fun e => hxy e.symm
            have hrS : wr.heap.size ≠ gS := HRN.out.2.1
            have hgS1 : gS ≠ wr.heap.size := fun e => hrS e.symm
            have hgbS : bS ≠ gS := H2.out.2.2.1
            have hgbS1 : gS ≠ bS := fun e => hgbS e.symm
            clear hrun k0 k1 k2 k3 hc8
            go_region
            have q1' := HO8.out.seen.stored xn (.bool true)
            rw [rowS_on 0 hx12, Nat.zero_or] at q1'
            have q2' := q1'.1.stored yn (.bool true)
            rw [rowS_on _ hy12] at q2'
            have hg9 : w8.grownBy ((w8.setCell ⟨gS, xn, none⟩ (.bool true)).setCell ⟨gS, yn, none⟩ (.bool true)).drew (some gS) := (q1'.2.trans q2'.2).trans (below_all ((Below.refl _ _).drew) _)
            have ho9 : ((w8.setCell ⟨gS, xn, none⟩ (.bool true)).setCell ⟨gS, yn, none⟩ (.bool true)).drew.ownsRow w.heap.size 4 1 (.slice (some ⟨gS, 0, none⟩) 12 12) 12 (rowS (2 ^ xn ||| 2 ^ yn)) := q2'.1.drew
            obtain ⟨w9, hw9⟩ : ∃ w9, w9 = ((w8.setCell ⟨gS, xn, none⟩ (.bool true)).setCell ⟨gS, yn, none⟩ (.bool true)).drew := ⟨_, rfl⟩
            rw [← hw9] at hg9 ho9 ⊢
            clear hw9 q1' q2' cx cy fx fy z0 z1 z2 z3 s8
            have HO9 := hd (HO8.out.see ho9 hg9 H3.out (fun e => (HN6.out gS e).2.2 rfl))
            have HK9 := hd (HK8.out.trans (Kept.of_seen hg9 bO (.slice A6 1 cap6)) HL6.out)
            have HP9 := hd (HPW.out.kept HK9.out H1.out H2.out (fun q e => (HN'.out q e).1))
            have HA9 := hd (ArcAt.kept HA8.out (Kept.of_seen hg9 bO (.slice A6 1 cap6)) HRN.out.1 HRN.out.2.1 (fun e => by
              rcases HL6.out _ e with h10 | h10
              · exact HRN.out.2.2 h10
              · have := HGW.out; omega))
            have HB9 := hd (HK9.out.below HBW.out (Nat.le_refl _) H5.out.1 H5.out.2 (fun q e => (World.ownsRow.lt HOX.out.row q e).1))
            obtain ⟨u8, hu8⟩ : ∃ u, u = Value.slice A6 1 cap6 := ⟨_, rfl⟩
            rw [← hu8] at HN6 HO9 HL6
            obtain ⟨gr, hgr⟩ : ∃ gr, gr = wr.heap.size := ⟨_, rfl⟩
            rw [← hgr] at HA9 HRN HGW ⊢
            have HR9 := hd (show gr ≠ bO ∧ gr ≠ gS ∧ ∀ u, LaterS w9 u8 u → u.ownBlock ≠ some gr from ⟨HRN.out.1, HRN.out.2.1, fun u hl e => by
              have hW := HGW.out
              have h8 := HK9.out.size
              rcases hl gr e with h9 | h9
              · rcases HL6.out gr h9 with h10 | h10
                · exact HRN.out.2.2 h10
                · omega
              · omega⟩)
            have HS9 := hd (show ArcAt w9 gr xn yn c d ∧ PutB w9 (some ⟨bb, off, none⟩) n cap size lg q w.heap.size bO bZ bS bL bB bP gS ∧ SubR w9 w9 w.heap.size bO gS u8 [k] (rowS (2 ^ xn ||| 2 ^ yn)) from ⟨HA9.out, HP9.out, u8, Kept.refl _ _ _ _, LaterS.refl _ _, HO9.out⟩)
            obtain ⟨r, hr⟩ := HR2.out
            have HSZ := hd hr
            have HPA := hd (put_all l (some ⟨bb, off, none⟩) n cap size lg q (xn : Int) w w.heap.size bO bZ bS bL bB bP gS HA.out s2 HL.out n32 hcap HAR.out l0 l1 q0 q1 (by omega) H1.out H2.out H3.out H5.out r)
            have HPRE := hd (fun (wx : World) (hs : ArcAt wx gr xn yn c d ∧ PutB wx (some ⟨bb, off, none⟩) n cap size lg q w.heap.size bO bZ bS bL bB bP gS ∧ SubR w9 wx w.heap.size bO gS u8 [k] (rowS (2 ^ xn ||| 2 ^ yn))) => by
              obtain ⟨u9, h91, h92, h93⟩ := hs.2.2
              exact (⟨u9, h91, h92, HPA.out (yn : Int) (2 ^ xn ||| 2 ^ yn) zv [k] u9 wx (by have := HSZ.out; simp; omega) (by simp; omega) (hd (h91.below HB9.out (Nat.le_refl _) H5.out.1 H5.out.2 (fun q e => (World.ownsRow.lt HO9.out.row q e).1))) (hd hs.2.1) (hd h93) (hd (ne_later HP9.out HO9.out HN6.out h92))⟩ : ∃ u9, Kept w9 wx bO gS u8 ∧ LaterS w9 u8 u9 ∧ Calls Try.prog 52 #[.int .i64 xn, .int .i64 yn, .int .i64 zv, .pointer (some ⟨w.heap.size, 0, none⟩), .pointer (some ⟨bO, 0, none⟩), .pointer (some ⟨bZ, 0, none⟩), .pointer (some ⟨bS, 0, none⟩), .pointer (some ⟨bL, 0, none⟩), .pointer (some ⟨bB, 0, none⟩), .pointer (some ⟨bP, 0, none⟩)] wx (PutPost l (fun a => q * a.c - lg * a.d) xn r yn (2 ^ xn ||| 2 ^ yn) zv [k] w.heap.size bO gS u9 wx)))
            have HG2 := hd (show topF l z size k ⟨xn, yn, c, d⟩ = (goR l z xn (r + 1) yn (2 ^ xn ||| 2 ^ yn) zv).map (k :: ·) by
              rw [HG.out, if_neg (by omega), if_neg (by omega), if_neg (by omega), Int.toNat_natCast, Int.toNat_natCast, hr]; rfl)
            have hp9 := HP9.out.p
            have hl9 := HP9.out.l
            have hb9 := HP9.out.b
            obtain ⟨z0, z1, z2, z3⟩ := HA9.out
            have HU8 := hd hu8
            clear hu8 hgr hr hg9 ho9 HPA HG hxy hyx hrS hgS1 hgbS hgbS1 c2 c3 c3b c4 c4i c4b
            go_upto_region 15 with fail
            cases hgr : goR l z xn (r + 1) yn (2 ^ xn ||| 2 ^ yn) zv with
            | none =>
              have E := hd (HSK.out (by rw [HG2.out, hgr]; rfl))
              have HC := hd (fun (wx : World) (hs : ArcAt wx gr xn yn c d ∧ PutB wx (some ⟨bb, off, none⟩) n cap size lg q w.heap.size bO bZ bS bL bB bP gS ∧ SubR w9 wx w.heap.size bO gS u8 [k] (rowS (2 ^ xn ||| 2 ^ yn))) => by
                obtain ⟨u9, h91, h92, hc⟩ := HPRE.out wx hs
                exact (hc.mono (fun e w'' hp => by
                  obtain ⟨u10, g1, g2, g3, g4⟩ := hp.none (by rw [← HZ.out]; exact hgr)
                  have hN9 := ne_later HP9.out HO9.out HN6.out h92
                  exact ⟨g3, hs.1.kept g1 HR9.out.1 HR9.out.2.1 (HR9.out.2.2 u9 h92), hs.2.1.kept g1 H1.out H2.out (fun q e => (hN9 q e).1), u10, h91.trans g1 h92, h92.trans (later_mono g2 h91.size) (Nat.le_refl _), g4⟩) : Calls Try.prog 52 #[.int .i64 xn, .int .i64 yn, .int .i64 zv, .pointer (some ⟨w.heap.size, 0, none⟩), .pointer (some ⟨bO, 0, none⟩), .pointer (some ⟨bZ, 0, none⟩), .pointer (some ⟨bS, 0, none⟩), .pointer (some ⟨bL, 0, none⟩), .pointer (some ⟨bB, 0, none⟩), .pointer (some ⟨bP, 0, none⟩)] wx (fun e w'' => e = .returned (.bool false) ∧ ArcAt w'' gr xn yn c d ∧ PutB w'' (some ⟨bb, off, none⟩) n cap size lg q w.heap.size bO bZ bS bL bB bP gS ∧ SubR w9 w'' w.heap.size bO gS u8 [k] (rowS (2 ^ xn ||| 2 ^ yn)))))
              clear hgr HPRE HFND
              go_region_held3 (fun w' => (w'.cell? ⟨gr, 0, none⟩ = some (.int .i64 xn) ∧ w'.cell? ⟨gr, 1, none⟩ = some (.int .i64 yn) ∧ w'.cell? ⟨gr, 2, none⟩ = some (.int .i64 c) ∧ w'.cell? ⟨gr, 3, none⟩ = some (.int .i64 d)) ∧ (w'.cell? ⟨bP, 0, none⟩ = some (.func (.func 52) #[] #[.pointer (some ⟨w.heap.size, 0, none⟩), .pointer (some ⟨bO, 0, none⟩), .pointer (some ⟨bZ, 0, none⟩), .pointer (some ⟨bS, 0, none⟩), .pointer (some ⟨bL, 0, none⟩), .pointer (some ⟨bB, 0, none⟩), .pointer (some ⟨bP, 0, none⟩)]) ∧ w'.cell? ⟨bL, 0, none⟩ = some (.int .i64 lg) ∧ w'.cell? ⟨bB, 0, none⟩ = some (.int .i64 q)) ∧ (ArcAt w' gr xn yn c d ∧ PutB w' (some ⟨bb, off, none⟩) n cap size lg q w.heap.size bO bZ bS bL bB bP gS ∧ SubR w9 w' w.heap.size bO gS u8 [k] (rowS (2 ^ xn ||| 2 ^ yn))))
                (first | exact keepQ hS | exact keepQ (keepP h (‹(_ ∧ _ ∧ _ ∧ _) ∧ (_ ∧ _ ∧ _) ∧ _›).2.2) | exact keepQ (keepP ((Below.refl _ w9).drew) HS9.out))
                (first | (go_at_call 51; refine (HW.out _).mono ?_; rintro e w' ⟨rfl, h⟩) | (go_at_call 52; refine (HC.out _ (‹(_ ∧ _ ∧ _ ∧ _) ∧ (_ ∧ _ ∧ _) ∧ _›).2.2).mono ?_; rintro e w' ⟨rfl, hS⟩))
              obtain ⟨_, _, _, _, u9, h91, h92, h93⟩ := ‹(_ ∧ _ ∧ _ ∧ _) ∧ (_ ∧ _ ∧ _) ∧ _›
              have HK10 := hd h91
              have HL10 := hd h92
              have HO10 := hd h93
              clear h91 h92 h93 z0 z1 z2 z3 hp9 hl9 hb9 HC
              go_wp2
              go_roundw
              case rel =>
                have l1 := HLt.out.trans (later_mono HL6.out HKW.out.size) (Nat.le_refl _)
                have k1' := HKW.out.trans HK9.out HLt.out
                have l2 := l1.trans (later_mono HL10.out k1'.size) (Nat.le_refl _)
                exact ⟨k + 1, u9, by omega, by go_num, E, hd (k1'.trans HK10.out l1), hd l2, hd ⟨_, _, HO10.out⟩⟩
              case measure => simp [intOf]; omega
            | some p =>
              have E := hd (HFND.out (k :: p) (by rw [HG2.out, hgr]; rfl))
              have HC := hd (fun (wx : World) (hs : ArcAt wx gr xn yn c d ∧ PutB wx (some ⟨bb, off, none⟩) n cap size lg q w.heap.size bO bZ bS bL bB bP gS ∧ SubR w9 wx w.heap.size bO gS u8 [k] (rowS (2 ^ xn ||| 2 ^ yn))) => by
                obtain ⟨u9, h91, h92, hc⟩ := HPRE.out wx hs
                exact (hc.mono (fun e w'' hp => by
                  obtain ⟨u10, g1, g2, g3, sn, g4⟩ := hp.found (by rw [← HZ.out]; exact hgr)
                  exact ⟨g3, u10, h91.trans g1 h92, h92.trans (later_mono g2 h91.size) (Nat.le_refl _), sn, g4⟩) : Calls Try.prog 52 #[.int .i64 xn, .int .i64 yn, .int .i64 zv, .pointer (some ⟨w.heap.size, 0, none⟩), .pointer (some ⟨bO, 0, none⟩), .pointer (some ⟨bZ, 0, none⟩), .pointer (some ⟨bS, 0, none⟩), .pointer (some ⟨bL, 0, none⟩), .pointer (some ⟨bB, 0, none⟩), .pointer (some ⟨bP, 0, none⟩)] wx (fun e w'' => e = .returned (.bool true) ∧ ∃ u10, Kept w9 w'' bO gS u8 ∧ LaterS w9 u8 u10 ∧ ∃ sn, PutO w'' w.heap.size bO gS u10 ([k] ++ p) sn)))
              clear hgr HPRE HFND HSK
              go_region_held3 (fun w' => (w'.cell? ⟨gr, 0, none⟩ = some (.int .i64 xn) ∧ w'.cell? ⟨gr, 1, none⟩ = some (.int .i64 yn) ∧ w'.cell? ⟨gr, 2, none⟩ = some (.int .i64 c) ∧ w'.cell? ⟨gr, 3, none⟩ = some (.int .i64 d)) ∧ (w'.cell? ⟨bP, 0, none⟩ = some (.func (.func 52) #[] #[.pointer (some ⟨w.heap.size, 0, none⟩), .pointer (some ⟨bO, 0, none⟩), .pointer (some ⟨bZ, 0, none⟩), .pointer (some ⟨bS, 0, none⟩), .pointer (some ⟨bL, 0, none⟩), .pointer (some ⟨bB, 0, none⟩), .pointer (some ⟨bP, 0, none⟩)]) ∧ w'.cell? ⟨bL, 0, none⟩ = some (.int .i64 lg) ∧ w'.cell? ⟨bB, 0, none⟩ = some (.int .i64 q)))
                (first | exact hkk | exact ⟨(keepQ hS9).1, (keepQ hS9).2.1⟩ | exact ⟨(keepQ (keepP ((Below.refl _ w9).drew) HS9.out)).1, (keepQ (keepP ((Below.refl _ w9).drew) HS9.out)).2.1⟩)
                (first | (go_at_call 51; refine (HW.out _).mono ?_; rintro e w11 ⟨rfl, h⟩; have hS9 := keepP (below_tr h ((Below.refl _ w9).drew)) HS9.out) | (go_at_call 52; refine (HC.out _ hS9).mono ?_; rintro e w10 ⟨rfl, hdone⟩; have hkk := keepD hdone HA9.out HP9.out HR9.out.1 HR9.out.2.1 (HR9.out.2.2 u8 (LaterS.refl _ _)) H1.out H2.out HN6.out))
              obtain ⟨u10, d1, d2, sn', d3⟩ := hdone
              have oc10 := d3.cell
              have HD1 := hd d1
              have HD3 := hd d3
              clear d1 d2 d3
              go_wp2
              go_ret
              exact ⟨HD1.out.below HB9.out (Nat.le_refl _) H5.out.1 H5.out.2 (fun q e => (World.ownsRow.lt HO9.out.row q e).1), .inr ⟨k :: p, u10, by rw [← HZ.out]; exact E.out, rfl, HD3.out.sm, HD3.out.row⟩⟩
    · have e : k = n := by omega
      subst e
      have E := hd (show ringF l z size = none from firstF_all (fun j a ha => by rw [Nat.zero_add]; exact HF.out j a (by have := (List.getElem?_eq_some_iff.1 ha).1; have := HL.out; omega) ha))
      go_wp2
      go_ret
      exact ⟨HB1.out, .inl ⟨by rw [← HZ.out]; exact E.out, rfl⟩⟩
end Go.Proofs.Ytclkgfcehmmgaaa
