/- Rows matched with columns, the program's side (made by tools/mkmatch.py). -/
import Derived.Test.YtjcmgjjnkbhamaaProg
import Derived.Test.YtjcmgjjnkbhamaaMatchS
import Derived.Test.YtjcmgjjnkbhamaaStoreBox
import Derived.Test.YtjcmgjjnkbhamaaRep
import Derived.Deep.RegionWith
import Derived.Lib.SliceRun
namespace Go.Proofs.Ytjcmgjjnkbhamaa
open Go.RowKit Plain
set_option linter.unusedVariables false
set_option linter.unusedSimpArgs false
attribute [local go_sem ↓] Go.wp_at_zero Go.wp_at_succ

/-- the boxes of a search: columns, columns looked at, the test, partners, the search itself -/
structure LookB (w : World) (F : Value) (bR bS bF bO bL g1 c1 g2 p : Nat) : Prop where
  r : w.cell? ⟨bR, 0, none⟩ = some (.int .i64 p)
  s : w.cell? ⟨bS, 0, none⟩ = some (.slice (some ⟨g2, 0, none⟩) p p)
  f : w.cell? ⟨bF, 0, none⟩ = some F
  o : w.cell? ⟨bO, 0, none⟩ = some (.slice (some ⟨g1, 0, none⟩) p c1)
  l : w.cell? ⟨bL, 0, none⟩ = some (.func (.func 28) #[] #[.pointer (some ⟨bR, 0, none⟩), .pointer (some ⟨bS, 0, none⟩), .pointer (some ⟨bF, 0, none⟩), .pointer (some ⟨bO, 0, none⟩), .pointer (some ⟨bL, 0, none⟩)])
def BoxNe (bR bS bF bO bL g : Nat) : Prop := bR ≠ g ∧ bS ≠ g ∧ bF ≠ g ∧ bO ≠ g ∧ bL ≠ g
theorem LookB.grown {w w' : World} {F : Value} {bR bS bF bO bL g1 c1 g2 p g : Nat} (h : LookB w F bR bS bF bO bL g1 c1 g2 p) (hg : w.grownBy w' (some g)) (hne : BoxNe bR bS bF bO bL g) : LookB w' F bR bS bF bO bL g1 c1 g2 p := by
  obtain ⟨n1, n2, n3, n4, n5⟩ := hne
  exact ⟨hg.cell h.r (by simp; omega), hg.cell h.s (by simp; omega), hg.cell h.f (by simp; omega), hg.cell h.o (by simp; omega), hg.cell h.l (by simp; omega)⟩
theorem LookB.below {w w' : World} {F : Value} {bR bS bF bO bL g1 c1 g2 p : Nat} (h : LookB w F bR bS bF bO bL g1 c1 g2 p) (hb : Below w.heap.size w w') : LookB w' F bR bS bF bO bL g1 c1 g2 p :=
  ⟨below_at hb h.r, below_at hb h.s, below_at hb h.f, below_at hb h.o, below_at hb h.l⟩
theorem PairR.below {w w' : World} {B g1 c1 g2 p : Nat} {s : MaS} (h : PairR w B g1 c1 g2 p s) (hb : Below w.heap.size w w') : PairR w' B g1 c1 g2 p s := ⟨own_below h.1 hb, own_below h.2.1 hb, h.2.2⟩
theorem belowT {B : Nat} {w0 w w' : World} (h : Below B w0 w) (hb : Below w.heap.size w w') (hs : B ≤ w0.heap.size) : Below B w0 w' := h.trans (hb.mono (Nat.le_trans hs h.size))
theorem own_drwM {w : World} {base size n : Nat} {e : TypeId} {v : Value} {xs : List Value} (h : w.ownsRow base e size v n xs) (k : Nat) : (w.drewN k).ownsRow base e size v n xs := h
theorem belowDr {B : Nat} {w0 w : World} (h : Below B w0 w) (k : Nat) : Below B w0 (w.drewN k) := ⟨h.os, h.tape, h.output, h.size, h.block⟩
def setFrom : List Value → Nat → List Value → List Value
  | xs, _, [] => xs
  | xs, o, v :: r => setFrom (xs.set o v) (o + 1) r
theorem own_setCells {base size n cap g : Nat} {e : TypeId} (vs : List Value) : ∀ (w : World) (o : Nat) (xs : List Value), w.ownsRow base e size (.slice (some ⟨g, 0, none⟩) n cap) n xs → (w.setCells g o vs).ownsRow base e size (.slice (some ⟨g, 0, none⟩) n cap) n (setFrom xs o vs) ∧ w.grownBy (w.setCells g o vs) (some g) := by
  induction vs with
  | nil => intro w o xs h; exact ⟨h, ⟨rfl, rfl, rfl, Nat.le_refl _, fun _ _ _ => rfl⟩⟩
  | cons v vs ih =>
    intro w o xs h
    have h1 := h.stored o v
    have h2 := ih _ (o + 1) _ h1.1
    exact ⟨h2.1, h1.2.trans h2.2⟩
theorem setFrom_get (vs : List Value) : ∀ (xs : List Value) (o j : Nat), o + vs.length ≤ xs.length → (setFrom xs o vs)[j]? = if o ≤ j ∧ j < o + vs.length then vs[j - o]? else xs[j]? := by
  induction vs with
  | nil => intro xs o j _; rw [if_neg (by simp only [List.length_nil]; omega)]; rfl
  | cons v vs ih =>
    intro xs o j h
    simp only [List.length_cons] at h ⊢
    rw [setFrom, ih _ _ _ (by simp; omega)]
    by_cases h1 : o + 1 ≤ j ∧ j < o + 1 + vs.length
    · rw [if_pos h1, if_pos (by omega), show j - o = j - (o + 1) + 1 by omega]; rfl
    · rw [if_neg h1, List.getElem?_set]
      by_cases h2 : o = j
      · subst h2; rw [if_pos rfl, if_pos (by omega), if_pos (by omega), Nat.sub_self]; rfl
      · rw [if_neg h2, if_neg (by omega)]
theorem setFrom_all {xs vs : List Value} (h : xs.length = vs.length) : setFrom xs 0 vs = vs := by
  apply List.ext_getElem?
  intro j
  rw [setFrom_get _ _ _ _ (by omega)]
  by_cases hj : j < vs.length
  · rw [if_pos (by omega)]; rfl
  · rw [if_neg (by omega), List.getElem?_eq_none (by omega), List.getElem?_eq_none (by omega)]
set_option maxRecDepth 100000 in
theorem clear_run (w : World) (base p g : Nat) (l : List Value) (hp : 0 < p) (h : w.ownsRow base 4 1 (.slice (some ⟨g, 0, none⟩) p p) p l) :
    ∃ w', (∀ ty, (Builtin.clear_ #[34] ty #[.slice (some ⟨g, 0, none⟩) p p]).run Try.prog w = .ok (.tuple #[]) w') ∧ Hid (w'.ownsRow base 4 1 (.slice (some ⟨g, 0, none⟩) p p) p ((List.replicate p false).map vb) ∧ w.grownBy w' (some g)) := by
  have hl := h.1
  have hr := fun ty => Lib.run_clear_slice (P := Try.prog) w 34 4 ty (.bool false) Try.underlying34 (by intro w; rfl) rfl rfl g 0 p p hp (fun j hj => by rw [Nat.zero_add, h.cellAt j (by omega), List.getElem?_eq_getElem (by omega)]; rfl) (fun j hj => by rw [Nat.zero_add]; exact h.frozenAt j)
  have ho := own_setCells (List.replicate p (.bool false)) w 0 l h
  rw [setFrom_all (by simp; omega)] at ho
  exact ⟨_, hr, by simpa [vb, Hid] using ho⟩

set_option maxHeartbeats 4000000 in
set_option maxRecDepth 100000 in
theorem look_FewestVehicles (f : Nat → Nat → Bool) (rows p B g1 c1 g2 bR bS bF bO bL x1 x2 : Nat) (w0 : World) (p1 : 1 ≤ p) (p2 : p ≤ 24) (r2 : rows ≤ 24) (n1 : BoxNe bR bS bF bO bL g1) (n2 : BoxNe bR bS bF bO bL g2) (hB : B ≤ w0.heap.size)
    (HF : Hid (∀ w', Below B w0 w' → ∀ i k, i < rows → k < p → Calls Try.prog 18 #[.int .i64 (i : Nat), .int .i64 (k : Nat), .pointer (some ⟨x1, 0, none⟩), .pointer (some ⟨x2, 0, none⟩)] w' fun e w2 => e = .returned (.bool (f i k)) ∧ Below w'.heap.size w' w2)) (n : Nat) :
    ∀ (i : Nat) (s : MaS) (w : World), i < rows → Hid (OkM rows p s) → openM s < n → Below B w0 w → LookB w (.func (.func 18) #[] #[.pointer (some ⟨x1, 0, none⟩), .pointer (some ⟨x2, 0, none⟩)]) bR bS bF bO bL g1 c1 g2 p → PairR w B g1 c1 g2 p s →
    Calls Try.prog 28 #[.int .i64 i, .pointer (some ⟨bR, 0, none⟩), .pointer (some ⟨bS, 0, none⟩), .pointer (some ⟨bF, 0, none⟩), .pointer (some ⟨bO, 0, none⟩), .pointer (some ⟨bL, 0, none⟩)] w fun e w' => e = .returned (.bool (lookM f p n i s).1) ∧ LookB w' (.func (.func 18) #[] #[.pointer (some ⟨x1, 0, none⟩), .pointer (some ⟨x2, 0, none⟩)]) bR bS bF bO bL g1 c1 g2 p ∧ PairR w' B g1 c1 g2 p (lookM f p n i s).2 ∧ Below B w0 w' := by
  induction n with
  | zero => intro i s w _ _ h; omega
  | succ n ih =>
    intro i s w hi hok hop hb0 hL hP
    have IH := hd ih
    have hg1 := (World.ownsRow.lt hP.1 g1 rfl).1
    have hg2 := (World.ownsRow.lt hP.2.1 g2 rfl).1
    have HP := hd hP
    have HL := hd hL
    have HB0 := hd hb0
    have HS := hd (show lookM f p (n + 1) i s = loopM f (lookM f p n) i (p - 0) 0 s from rfl)
    have N1 := hd n1
    have N2 := hd n2
    have HBW := hd hB
    have lr := hL.r
    clear ih hP hL hb0 hB n1 n2
    go_enter Try.func28, Try.ntmps28
    go_wp2
    clear lr
    go_loopw [10] (fun ix wr => ∃ (k : Nat) (s' : MaS), k ≤ p ∧ ix = .int .i64 k ∧ Hid (lookM f p (n + 1) i s = loopM f (lookM f p n) i (p - k) k s') ∧ Hid (OkM rows p s') ∧ openM s' < n + 1 ∧ Hid (PairR wr B g1 c1 g2 p s') ∧ Hid (LookB wr (.func (.func 18) #[] #[.pointer (some ⟨x1, 0, none⟩), .pointer (some ⟨x2, 0, none⟩)]) bR bS bF bO bL g1 c1 g2 p) ∧ Hid (Below B w0 wr)) (fun ix _ => p - (intOf ix).toNat)
    case atStart => exact ⟨0, s, by omega, rfl, HS, hok, hop, HP, HL, HB0⟩
    case round =>
      clear HS HP HL HB0 hok hop
      obtain ⟨k, s', hk, rfl, hS, hok, hop, hP, hL, HB⟩ := hrel
      by_cases hlt : k < p
      · have cs := own_bool hP.out.2.1 hlt
        have ls := hL.out.s
        have lf := hL.out.f
        have hbd := hok.out.bd k hlt
        have SK := hd (fun h => loop_skip (f := f) (rc := lookM f p n) (i := i) (s := s') hlt h)
        have HM := hd (fun h => open_mark (s := s') (k := k) h)
        have FR := hd (fun h1 h2 h3 => loop_free (f := f) (rc := lookM f p n) (i := i) (s := s') hlt h1 h2 h3)
        have YS := hd (fun q h1 h2 h3 h4 => loop_yes (f := f) (rc := lookM f p n) (i := i) (q := q) (s := s') hlt h1 h2 h3 h4)
        have NO := hd (fun q h1 h2 h3 h4 => loop_no (f := f) (rc := lookM f p n) (i := i) (q := q) (s := s') hlt h1 h2 h3 h4)
        have FF := hd (fun w' h => HF.out w' h i k hi hlt)
        generalize hfb : f i k = fb at *
        generalize hsb : s'.sn.getD k true = sb at *
        generalize hpq : s'.po.getD k 0 = q at *
        have HQ := hd hpq
        clear hfb hsb hpq
        have i0 : (0 : Int) ≤ (k : Int) := by omega
        have i1 : (k : Int) < (p : Int) := by omega
        cases sb with
        | true =>
          have E := hd (SK.out (.inl rfl))
          clear SK FR YS NO
          go_wp2
          go_roundw
          case rel => exact ⟨k + 1, s', by omega, by go_num, hd (by rw [hS.out, E.out]), hok, hop, hP, hL, HB⟩
          case measure => simp [intOf]; omega
        | false =>
          cases fb with
          | false =>
            have E := hd (SK.out (.inr rfl))
            clear SK FR YS NO
            go_wp2_with (go_at_call 18; refine (FF.out _ HB.out).mono ?_; rintro e w4 ⟨rfl, hb4⟩)
            go_roundw
            case rel => exact ⟨k + 1, s', by omega, by go_num, hd (by rw [hS.out, E.out]), hok, hop, hd (hP.out.below hb4), hd (hL.out.below hb4), hd (belowT HB.out hb4 HBW.out)⟩
            case measure => simp [intOf]; omega
          | true =>
            have hmk := HM.out rfl
            clear SK HM
            by_cases hq : q < 0
            · have E := hd (FR.out rfl rfl hq)
              clear YS NO FR
              go_wp2_with (first
                | (go_at_call 18; refine (FF.out _ HB.out).mono ?_; rintro e w4 ⟨rfl, hb4⟩; have HP4 := hd (hP.out.below hb4); have HL4 := hd (hL.out.below hb4); have HB4 := hd (belowT HB.out hb4 HBW.out); have s4 := HL4.out.s; have ho4 := HP4.out.2.1; clear hb4)
                | ((with_reducible refine wpList_store_own _ B 4 1 p p g2 _ ho4 size_bool k (vb true) ?_ ?_ ?_ ?_ ?_); exact rfl; exact rfl; exact rfl; omega; intro w6 ho6 hg6; have HP6 := hd (HP4.out.mark ho6 hg6); have HL6 := hd (HL4.out.grown hg6 N2.out); have HB6 := hd (belowB HB4.out hg6 hg2 HBW.out); have o6 := HL6.out.o; have c6 := own_int HP6.out.1 hlt; rw [show (markM s' k).po.getD k 0 = q from HQ.out] at c6; clear ho6 hg6 s4 ho4))
              go_quiet (fail)
              have HP7 := hd (show PairR _ B g1 c1 g2 p (markM s' k) from ⟨own_drwM HP6.out.1 nq, own_drwM HP6.out.2.1 nq, HP6.out.2.2⟩)
              have ho7 := HP7.out.1
              go_wp2_with ((with_reducible refine wpList_store_own _ B 2 1 p c1 g1 _ ho7 size_int k (vi (i : Int)) ?_ ?_ ?_ ?_ ?_); exact rfl; exact rfl; exact rfl; omega; intro w8 ho8 hg8; have hP8 := HP7.out.give ho8 hg8)
              go_ret
              exact ⟨by rw [hS.out, E.out]; rfl, LookB.grown (w := w6.drewN nq) ⟨HL6.out.r, HL6.out.s, HL6.out.f, HL6.out.o, HL6.out.l⟩ hg8 N1.out, by rw [hS.out, E.out]; exact hP8, belowB (belowDr HB6.out _) hg8 hg1 HBW.out⟩
            · obtain ⟨qn, rfl⟩ : ∃ qn : Nat, q = qn := ⟨q.toNat, by omega⟩
              have hqr : qn < rows := by omega
              have ok2 := hd (hok.out.mark k)
              have ok3 := hd (lookM_ok (f := f) n qn _ hqr ok2.out)
              have X := hd (fun w6 hb6 hL6 hP6 => IH.out qn (markM s' k) w6 hqr ok2 (by omega) hb6 hL6 hP6)
              have YS2 := hd (YS.out qn rfl rfl rfl)
              have NO2 := hd (NO.out qn rfl rfl rfl)
              clear FR YS NO hbd
              generalize lookM f p n qn (markM s' k) = z at *
              obtain ⟨b, s2⟩ := z
              simp only at YS2 NO2 ok3 X
              have hqn : ¬ (qn : Int) < 0 := by omega
              cases b with
              | true =>
                have E := hd (YS2.out rfl)
                clear YS2 NO2
                go_wp2_with (first
                  | (go_at_call 18; refine (FF.out _ HB.out).mono ?_; rintro e w4 ⟨rfl, hb4⟩; have HP4 := hd (hP.out.below hb4); have HL4 := hd (hL.out.below hb4); have HB4 := hd (belowT HB.out hb4 HBW.out); have s4 := HL4.out.s; have ho4 := HP4.out.2.1; clear hb4)
                  | ((with_reducible refine wpList_store_own _ B 4 1 p p g2 _ ho4 size_bool k (vb true) ?_ ?_ ?_ ?_ ?_); exact rfl; exact rfl; exact rfl; omega; intro w6 ho6 hg6; have HP6 := hd (HP4.out.mark ho6 hg6); have HL6 := hd (HL4.out.grown hg6 N2.out); have HB6 := hd (belowB HB4.out hg6 hg2 HBW.out); have o6 := HL6.out.o; have l6 := HL6.out.l; have c6 := own_int HP6.out.1 hlt; rw [show (markM s' k).po.getD k 0 = qn from HQ.out] at c6; clear ho6 hg6 s4 ho4))
                go_region_with (go_at_call 28; refine (X.out _ ?_ ?_ ?_).mono ?_; exact HB6.out.drew; exact ⟨HL6.out.r, HL6.out.s, HL6.out.f, HL6.out.o, HL6.out.l⟩; exact ⟨HP6.out.1, HP6.out.2.1, HP6.out.2.2⟩; rintro e w7 ⟨rfl, hL7, hP7, hb7⟩; have o7 := hL7.o; have HP7 := hd hP7; have HL7 := hd hL7; have HB7 := hd hb7; clear hL7 hP7 hb7)
                all_goals
                  have ho7 := HP7.out.1
                  go_wp2_with ((with_reducible refine wpList_store_own _ B 2 1 p c1 g1 _ ho7 size_int k (vi (i : Int)) ?_ ?_ ?_ ?_ ?_); exact rfl; exact rfl; exact rfl; omega; intro w8 ho8 hg8; have hP8 := HP7.out.give ho8 hg8)
                  go_ret
                  exact ⟨by rw [hS.out, E.out]; rfl, HL7.out.grown hg8 N1.out, by rw [hS.out, E.out]; exact hP8, belowB HB7.out hg8 hg1 HBW.out⟩
              | false =>
                have E := hd (NO2.out rfl)
                clear YS2 NO2
                go_wp2_with (first
                  | (go_at_call 18; refine (FF.out _ HB.out).mono ?_; rintro e w4 ⟨rfl, hb4⟩; have HP4 := hd (hP.out.below hb4); have HL4 := hd (hL.out.below hb4); have HB4 := hd (belowT HB.out hb4 HBW.out); have s4 := HL4.out.s; have ho4 := HP4.out.2.1; clear hb4)
                  | ((with_reducible refine wpList_store_own _ B 4 1 p p g2 _ ho4 size_bool k (vb true) ?_ ?_ ?_ ?_ ?_); exact rfl; exact rfl; exact rfl; omega; intro w6 ho6 hg6; have HP6 := hd (HP4.out.mark ho6 hg6); have HL6 := hd (HL4.out.grown hg6 N2.out); have HB6 := hd (belowB HB4.out hg6 hg2 HBW.out); have o6 := HL6.out.o; have l6 := HL6.out.l; have c6 := own_int HP6.out.1 hlt; rw [show (markM s' k).po.getD k 0 = qn from HQ.out] at c6; clear ho6 hg6 s4 ho4))
                go_region_with (go_at_call 28; refine (X.out _ ?_ ?_ ?_).mono ?_; exact HB6.out.drew; exact ⟨HL6.out.r, HL6.out.s, HL6.out.f, HL6.out.o, HL6.out.l⟩; exact ⟨HP6.out.1, HP6.out.2.1, HP6.out.2.2⟩; rintro e w7 ⟨rfl, hL7, hP7, hb7⟩; have HP7 := hd hP7; have HL7 := hd hL7; have HB7 := hd hb7; clear hL7 hP7 hb7)
                all_goals
                  go_wp2
                  go_roundw
                  case rel => exact ⟨k + 1, s2, by omega, by go_num, hd (by rw [hS.out, E.out]), hd ok3.out.1, by have := ok3.out.2; omega, HP7, HL7, HB7⟩
                  case measure => simp [intOf]; omega
      · have e : k = p := by omega
        subst e
        have E := hd (show lookM f k (n + 1) i s = (false, s') by rw [hS.out]; exact loop_end)
        go_wp2
        go_ret
        rw [E.out]
        exact ⟨rfl, hL.out, hP.out, HB.out⟩
end Go.Proofs.Ytjcmgjjnkbhamaa
