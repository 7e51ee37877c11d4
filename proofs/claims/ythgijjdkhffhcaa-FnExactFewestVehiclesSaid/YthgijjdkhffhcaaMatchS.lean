/- Rows matched with columns, the reference's side. -/
import Derived.Test.YthgijjdkhffhcaaProg
import Derived.Test.YthgijjdkhffhcaaMatchT
import Derived.Test.YthgijjdkhffhcaaStoreOwn
import Derived.Test.YthgijjdkhffhcaaApp
import Derived.Test.YthgijjdkhffhcaaBSlice
import Derived.Test.YthgijjdkhffhcaaSlice
import Derived.Sort.AtCall
namespace Go.Proofs.Ythgijjdkhffhcaa
open Go.RowKit Plain
set_option linter.unusedVariables false
set_option linter.unusedSimpArgs false
attribute [local go_sem ↓] Go.wp_at_zero Go.wp_at_succ

/-- the two rows of a search -/
def PairR (w : World) (B g1 c1 g2 p : Nat) (s : MaS) : Prop := w.ownsRow B 2 1 (.slice (some ⟨g1, 0, none⟩) p c1) p (s.po.map vi) ∧ w.ownsRow B 4 1 (.slice (some ⟨g2, 0, none⟩) p p) p (s.sn.map vb) ∧ g1 ≠ g2
theorem dj_ne {g1 g2 n1 c1 n2 c2 : Nat} (h : g1 ≠ g2) : Dj (.slice (some ⟨g1, 0, none⟩) n1 c1) (.slice (some ⟨g2, 0, none⟩) n2 c2) := by
  intro k hk hk2
  have e1 := Option.some.inj hk
  have e2 := Option.some.inj hk2
  simp only at e1 e2
  omega
theorem own_bool {w : World} {base g c p k : Nat} {e : TypeId} {l : List Bool} (h : w.ownsRow base e 1 (.slice (some ⟨g, 0, none⟩) p c) p (l.map vb)) (hk : k < p) : w.cell? ⟨g, k, none⟩ = some (.bool (l.getD k true)) := by
  have hl := h.1
  simp at hl
  rw [h.cellAt k (by omega), List.getElem?_map, List.getElem?_eq_getElem (by omega), List.getD_eq_getElem?_getD, List.getElem?_eq_getElem (by omega)]; rfl
theorem own_int {w : World} {base g c p k : Nat} {e : TypeId} {l : List Int} (h : w.ownsRow base e 1 (.slice (some ⟨g, 0, none⟩) p c) p (l.map vi)) (hk : k < p) : w.cell? ⟨g, k, none⟩ = some (.int .i64 (l.getD k 0)) := by
  have hl := h.1
  simp at hl
  rw [h.cellAt k (by omega), List.getElem?_map, List.getElem?_eq_getElem (by omega), List.getD_eq_getElem?_getD, List.getElem?_eq_getElem (by omega)]; rfl
theorem PairR.mark {w w' : World} {B g1 c1 g2 p k : Nat} {s : MaS} (h : PairR w B g1 c1 g2 p s) (ho : w'.ownsRow B 4 1 (.slice (some ⟨g2, 0, none⟩) p p) p ((s.sn.map vb).set k (vb true))) (hg : w.grownBy w' (some g2)) : PairR w' B g1 c1 g2 p (markM s k) := by
  refine ⟨own_kept (u := .slice (some ⟨g2, 0, none⟩) p p) h.1 hg (dj_ne h.2.2), ?_, h.2.2⟩
  show w'.ownsRow _ _ _ _ _ ((s.sn.set k true).map vb)
  rw [List.map_set]; exact ho
theorem PairR.give {w w' : World} {B g1 c1 g2 p k i : Nat} {s : MaS} (h : PairR w B g1 c1 g2 p s) (ho : w'.ownsRow B 2 1 (.slice (some ⟨g1, 0, none⟩) p c1) p ((s.po.map vi).set k (vi i))) (hg : w.grownBy w' (some g1)) : PairR w' B g1 c1 g2 p (giveM s k i) := by
  refine ⟨?_, own_kept (u := .slice (some ⟨g1, 0, none⟩) p c1) h.2.1 hg (dj_ne h.2.2.symm), h.2.2⟩
  show w'.ownsRow _ _ _ _ _ ((s.po.set k (i : Int)).map vi)
  rw [List.map_set]; exact ho
theorem belowB {B g : Nat} {w0 w w' : World} (h : Below B w0 w) (hg : w.grownBy w' (some g)) (hB : B ≤ g) (hs : B ≤ w0.heap.size) : Below B w0 w' := h.grown hg (Nat.le_trans hs h.size) (fun k hk => by cases hk; exact hB)
theorem cell_bt {bt q B : Nat} {w w' : World} {v : Value} (hc : w.cell? ⟨bt, q, none⟩ = some v) (hb : bt < B) (h : Below B w w') : w'.cell? ⟨bt, q, none⟩ = some v := by
  have e := h.block bt hb
  rw [← hc]
  simp only [World.cell?]
  rw [e]
theorem at_lt {i k rows p : Nat} (hi : i < rows) (hk : k < p) : i * p + k < rows * p := by
  have : (i + 1) * p ≤ rows * p := Nat.mul_le_mul_right p hi
  rw [Nat.succ_mul] at this
  omega

set_option maxHeartbeats 4000000 in
set_option maxRecDepth 100000 in
theorem find_any (f : Nat → Nat → Bool) (rows p B g1 c1 g2 bt off tn tc : Nat) (p1 : 1 ≤ p) (p2 : p ≤ 24) (r2 : rows ≤ 24) (hbt : bt < B) (htn : tn = rows * p) (n : Nat) : ∀ (i : Nat) (s : MaS) (w : World), i < rows → Hid (OkM rows p s) → openM s < n →
    Hid (∀ i k, i < rows → k < p → w.cell? ⟨bt, off + (i * p + k), none⟩ = some (.bool (f i k))) → PairR w B g1 c1 g2 p s →
    Calls Try.prog 77 #[.slice (some ⟨bt, off, none⟩) tn tc, .int .i64 p, .int .i64 i, .slice (some ⟨g1, 0, none⟩) p c1, .slice (some ⟨g2, 0, none⟩) p p] w fun e w' => e = .returned (.bool (lookM f p n i s).1) ∧ PairR w' B g1 c1 g2 p (lookM f p n i s).2 ∧ Below B w w' := by
  induction n with
  | zero => intro i s w _ _ h; omega
  | succ n ih =>
    intro i s w hi hok hop hT hP
    have IH := hd ih
    have h576 : rows * p ≤ 24 * 24 := Nat.mul_le_mul r2 p2
    have HLT := hd (fun i k (hi : i < rows) (hk : k < p) => at_lt hi hk)
    have h24 : tn ≤ 576 := by omega
    obtain ⟨gw, hgw, hg1, hg2⟩ : ∃ gw, gw = w.heap.size ∧ Hid (B ≤ w.heap.size) ∧ (B ≤ g1 ∧ B ≤ g2) := ⟨_, rfl, hd (by have := (World.ownsRow.lt hP.1 g1 rfl); omega), (World.ownsRow.lt hP.1 g1 rfl).1, (World.ownsRow.lt hP.2.1 g2 rfl).1⟩
    have HP := hd hP
    have HS := hd (show lookM f p (n + 1) i s = loopM f (lookM f p n) i (p - 0) 0 s from rfl)
    have HTN := hd htn
    clear ih hP h576 hgw htn
    go_enter Try.func77, Try.ntmps77
    go_wp2
    go_loopw [11] (fun ix wr => ∃ (k : Nat) (s' : MaS), k ≤ p ∧ ix = .int .i64 k ∧ Hid (lookM f p (n + 1) i s = loopM f (lookM f p n) i (p - k) k s') ∧ Hid (OkM rows p s') ∧ openM s' < n + 1 ∧ Hid (PairR wr B g1 c1 g2 p s') ∧ Below B w wr) (fun ix _ => p - (intOf ix).toNat)
    case atStart => exact ⟨0, s, by omega, rfl, HS, hok, hop, HP, Below.refl _ _⟩
    case round =>
      clear HS HP hok hop
      obtain ⟨k, s', hk, rfl, hS, hok, hop, hP, hb⟩ := hrel
      have HB := hd hb
      clear hb
      by_cases hlt : k < p
      · have ct := cell_bt (hT.out i k hi hlt) hbt HB.out
        have hlt2 := HLT.out i k hi hlt
        rw [← HTN.out] at hlt2
        have cs := own_bool hP.out.2.1 hlt
        have cp := own_int hP.out.1 hlt
        have hbd := hok.out.bd k hlt
        obtain ⟨ip, hip⟩ : ∃ ip : Nat, ip = i * p := ⟨_, rfl⟩
        rw [← hip] at ct hlt2
        have v1 : IntKind.i64.wrap ((i : Int) * (p : Int)) = (ip : Int) := by rw [hip, IntWalk.i64_in _ (by rw [← Int.natCast_mul, ← hip]; omega)]; push_cast; rfl
        have v2 : IntKind.i64.wrap ((ip : Int) + (k : Int)) = ((ip + k : Nat) : Int) := by rw [IntWalk.i64_in _ (by omega)]; omega
        obtain ⟨m, hm⟩ : ∃ m, m = ip + k := ⟨_, rfl⟩
        rw [← hm] at ct hlt2 v2
        have SK := hd (fun h => loop_skip (f := f) (rc := lookM f p n) (i := i) (s := s') hlt h)
        have HM := hd (fun h => open_mark (s := s') (k := k) h)
        have FR := hd (fun h1 h2 h3 => loop_free (f := f) (rc := lookM f p n) (i := i) (s := s') hlt h1 h2 h3)
        have YS := hd (fun q h1 h2 h3 h4 => loop_yes (f := f) (rc := lookM f p n) (i := i) (q := q) (s := s') hlt h1 h2 h3 h4)
        have NO := hd (fun q h1 h2 h3 h4 => loop_no (f := f) (rc := lookM f p n) (i := i) (q := q) (s := s') hlt h1 h2 h3 h4)
        generalize hfb : f i k = fb at *
        generalize hsb : s'.sn.getD k true = sb at *
        generalize hpq : s'.po.getD k 0 = q at *
        have HQ := hd hpq
        clear hip hm hfb hsb hpq
        have i0 : (0 : Int) ≤ (k : Int) := by omega
        have i1 : (k : Int) < (p : Int) := by omega
        have i2 : (0 : Int) ≤ (m : Int) := by omega
        have i3 : (m : Int) < (tn : Int) := by omega
        cases fb with
        | false =>
          have E := hd (SK.out (.inr rfl))
          clear SK FR YS NO
          go_wp2
          go_roundw
          case rel => exact ⟨k + 1, s', by omega, by go_num, hd (by rw [hS.out, E.out]), hok, hop, hP, HB.out⟩
          case measure => simp [intOf]; omega
        | true =>
          cases sb with
          | true =>
            have E := hd (SK.out (.inl rfl))
            clear SK FR YS NO
            go_wp2
            go_roundw
            case rel => exact ⟨k + 1, s', by omega, by go_num, hd (by rw [hS.out, E.out]), hok, hop, hP, HB.out⟩
            case measure => simp [intOf]; omega
          | false =>
            have hmk := HM.out rfl
            have ho2 := hP.out.2.1
            clear SK HM
            have cp' := hd cp
            by_cases hq : q < 0
            · have E := hd (FR.out rfl rfl hq)
              clear YS NO FR
              go_wp2_with (first
                | ((with_reducible refine wpList_store_own _ B 4 1 p p g2 _ ho2 size_bool k (vb true) ?_ ?_ ?_ ?_ ?_); exact rfl; exact rfl; exact rfl; omega; intro w6 ho6 hg6; have hP6 := hP.out.mark ho6 hg6; have cp6 := own_int hP6.1 hlt; rw [show (markM s' k).po.getD k 0 = q from HQ.out] at cp6; have HP6 := hd hP6; have ho61 := hP6.1; clear ho6 cp hP6)
                | ((with_reducible refine wpList_store_own _ B 2 1 p c1 g1 _ ho61 size_int k (vi (i : Int)) ?_ ?_ ?_ ?_ ?_); exact rfl; exact rfl; exact rfl; omega; intro w7 ho7 hg7; have hP7 := HP6.out.give ho7 hg7))
              go_ret
              exact ⟨by rw [hS.out, E.out]; rfl, by rw [hS.out, E.out]; exact hP7, belowB (belowB HB.out hg6 hg2.2 hg1.out) hg7 hg2.1 hg1.out⟩
            · obtain ⟨qn, rfl⟩ : ∃ qn : Nat, q = qn := ⟨q.toNat, by omega⟩
              have hqr : qn < rows := by omega
              have ok2 := hd (hok.out.mark k)
              have ok3 := hd (lookM_ok (f := f) n qn _ hqr ok2.out)
              have X := hd (fun w6 (hb6 : Below B w w6) hP6 => IH.out qn (markM s' k) w6 hqr ok2 (by omega) (hd (fun i k a b => cell_bt (hT.out i k a b) hbt hb6)) hP6)
              have YS2 := hd (YS.out qn rfl rfl rfl)
              have NO2 := hd (NO.out qn rfl rfl rfl)
              clear FR YS NO hbd
              generalize lookM f p n qn (markM s' k) = z at *
              obtain ⟨b, s2⟩ := z
              simp only at YS2 NO2 ok3 X
              cases b with
              | true =>
                have E := hd (YS2.out rfl)
                clear YS2 NO2
                go_wp2_with (first
                  | ((with_reducible refine wpList_store_own _ B 4 1 p p g2 _ ho2 size_bool k (vb true) ?_ ?_ ?_ ?_ ?_); exact rfl; exact rfl; exact rfl; omega; intro w6 ho6 hg6; have hP6 := hP.out.mark ho6 hg6; have cp6 := own_int hP6.1 hlt; rw [show (markM s' k).po.getD k 0 = qn from HQ.out] at cp6; have HP6 := hd hP6; have hb6 := hd (belowB HB.out hg6 hg2.2 hg1.out); clear ho6 cp hP6)
                  | (go_at_call 77; refine (X.out _ hb6.out HP6.out).mono ?_; rintro e w7 ⟨rfl, hP7, hb7⟩; have ho71 := hP7.1; have HP7 := hd hP7; clear hP7)
                  | ((with_reducible refine wpList_store_own _ B 2 1 p c1 g1 _ ho71 size_int k (vi (i : Int)) ?_ ?_ ?_ ?_ ?_); exact rfl; exact rfl; exact rfl; omega; intro w8 ho8 hg8; have hP8 := HP7.out.give ho8 hg8))
                go_ret
                exact ⟨by rw [hS.out, E.out]; rfl, by rw [hS.out, E.out]; exact hP8, belowB (hb6.out.trans hb7) hg8 hg2.1 hg1.out⟩
              | false =>
                have E := hd (NO2.out rfl)
                clear YS2 NO2
                go_wp2_with (first
                  | ((with_reducible refine wpList_store_own _ B 4 1 p p g2 _ ho2 size_bool k (vb true) ?_ ?_ ?_ ?_ ?_); exact rfl; exact rfl; exact rfl; omega; intro w6 ho6 hg6; have hP6 := hP.out.mark ho6 hg6; have cp6 := own_int hP6.1 hlt; rw [show (markM s' k).po.getD k 0 = qn from HQ.out] at cp6; have HP6 := hd hP6; have hb6 := hd (belowB HB.out hg6 hg2.2 hg1.out); clear ho6 cp hP6)
                  | (go_at_call 77; refine (X.out _ hb6.out HP6.out).mono ?_; rintro e w7 ⟨rfl, hP7, hb7⟩; have HP7 := hd hP7; clear hP7))
                go_roundw
                case rel => exact ⟨k + 1, s2, by omega, by go_num, hd (by rw [hS.out, E.out]), hd ok3.out.1, by have := ok3.out.2; omega, HP7, hb6.out.trans hb7⟩
                case measure => simp [intOf]; omega
      · have e : k = p := by omega
        subst e
        have E := hd (show lookM f k (n + 1) i s = (false, s') by rw [hS.out]; exact loop_end)
        go_wp2
        go_ret
        rw [E.out]
        exact ⟨rfl, hP.out, HB.out⟩
theorem repM_succ (k : Nat) : (List.replicate k (-1 : Int)).map vi ++ [.int .i64 (-1)] = (List.replicate (k + 1) (-1 : Int)).map vi := by
  rw [List.replicate_succ']; simp [vi]
set_option maxHeartbeats 4000000 in
set_option maxRecDepth 100000 in
theorem l06Match_any (f : Nat → Nat → Bool) (rows p : Nat) (p1 : 1 ≤ p) (p2 : p ≤ 24) (r1 : 1 ≤ rows) (r2 : rows ≤ 24) (v : Value) (tab : List Bool) (w : World) (hs : Sl w 1 v (rows * p) (tab.map vb)) (ht : ∀ i k, i < rows → k < p → tab[i * p + k]? = some (f i k)) :
    Calls Try.prog 45 #[v, .int .i64 rows, .int .i64 p] w (NewRow 2 1 p ((matM f p rows).map vi) w) := by
  obtain ⟨A, tc, rfl, htc, hr⟩ := hs
  have hmul : 1 * 1 ≤ rows * p := Nat.mul_le_mul r1 p1
  obtain ⟨bt, off, rfl, hc⟩ := hr.2.2 (by omega)
  have hT := hd (show ∀ i k, i < rows → k < p → w.cell? ⟨bt, off + (i * p + k), none⟩ = some (.bool (f i k)) from fun i k hi hk => hc _ _ (by rw [List.getElem?_map, ht i k hi hk]; rfl))
  have hbt := hd (show bt < w.heap.size from block_lt_of_cell (hT.out 0 0 (by omega) (by omega)))
  obtain ⟨tn, htn⟩ : ∃ tn, tn = rows * p := ⟨_, rfl⟩
  have FX := hd (fun g1 c1 g2 i s w' (hi : i < rows) h1 h2 (hb : Below w.heap.size w w') h4 => find_any f rows p w.heap.size g1 c1 g2 bt off tn tc p1 p2 r2 hbt.out htn (p + 1) i s w' hi h1 h2 (hd (fun i k a b => cell_bt (hT.out i k a b) hbt.out hb)) h4)
  have MK := hd (fun i hi => matM_ok f rows p i hi)
  rw [← htn] at htc ⊢
  clear hr hc ht htn hmul
  go_enter Try.func45, Try.ntmps45
  go_wp2
  have hst := World.ownsRow_made (size := 1) w #[] 0 (Nat.le_refl _) (by unfold maxLen; omega) rfl (e := 2)
  go_loopw [7, 8] (fun cu ix wr => ∃ k : Nat, k ≤ p ∧ ix = .int .i64 k ∧ wr.ownsRow w.heap.size 2 1 cu k ((List.replicate k (-1 : Int)).map vi) ∧ Below w.heap.size w wr) (fun _ ix _ => p - (intOf ix).toNat)
  case atStart => exact ⟨0, by omega, rfl, by simpa using hst, (Below.refl _ _).alloc (Nat.le_refl _) _⟩
  case round =>
    clear hst
    obtain ⟨k, hk, rfl, ho, hb⟩ := hrel
    by_cases hkn : k < p
    · have Ho := hd ho; have Hb := hd hb
      clear ho hb
      have i1 : (k : Int) < (p : Int) := by omega
      go_wp2_with (at_builtin; go_must (refine wpList_app_int _ _ _ rfl _ _ rfl w.heap.size k _ _ rfl Ho.out rfl _ rfl rfl (by omega) Hb.out.size ?_); intro v' w2 ho2 hg2 hap)
      go_roundw
      case rel => exact ⟨k + 1, by omega, by go_num, by rw [← repM_succ]; exact ho2, below_row hg2 Hb.out (own_row Ho.out (Nat.le_refl _))⟩
      case measure => simp [intOf]; omega
    · have e : p = k := by omega
      subst e
      obtain ⟨A2, c1, rfl, hc1, _, hA2⟩ := own_rd ho (by unfold maxLen; omega)
      obtain ⟨g1, rfl, hg11, hg12⟩ : ∃ g, A2 = some ⟨g, 0, none⟩ ∧ w.heap.size ≤ g ∧ g < wr.heap.size := by
        rcases hA2 with ⟨_, h⟩ | h
        · omega
        · exact h
      have Ho := hd ho; have Hb := hd hb
      clear ho hb hA2 hk hkn
      go_wp2
      go_loopw [9] (fun ix wr => ∃ i : Nat, i ≤ rows ∧ ix = .int .i64 i ∧ Hid (wr.ownsRow w.heap.size 2 1 (.slice (some ⟨g1, 0, none⟩) p c1) p ((matM f p i).map vi)) ∧ Below w.heap.size w wr) (fun ix _ => rows - (intOf ix).toNat)
      case atStart => exact ⟨0, by omega, rfl, Ho, Hb.out⟩
      case round =>
        clear Ho Hb
        obtain ⟨i, hi, rfl, Ho, hb⟩ := hrel
        have Hb := hd hb
        clear hb
        by_cases hlt : i < rows
        · have i1 : (i : Int) < (rows : Int) := by omega
          have OK := hd (okM_new (MK.out i hi).1 (MK.out i hi).2)
          have hg1 := hd (World.ownsRow.lt Ho.out g1 rfl)
          go_wp2_with (first
            | (at_make; go_must (refine wpList_make_bool _ rfl _ rfl _ _ p rfl rfl (by omega) ?_); intro w5 ho5 hb5; have HP := hd (show PairR w5 w.heap.size g1 c1 wr.heap.size p ⟨matM f p i, List.replicate p false⟩ from ⟨own_below Ho.out hb5, by have := own_mono ho5 Hb.out.size; simpa [vb] using this, by have := hg1.out; omega⟩); have Hb5 := hd (below_tr hb5 Hb.out); clear ho5 hb5)
            | (go_at_call 77; refine (FX.out g1 c1 _ i ⟨matM f p i, List.replicate p false⟩ _ hlt (hd OK.out.1) OK.out.2 Hb5.out HP.out).mono ?_; rintro e w7 ⟨rfl, hP7, hb7⟩; have H7 := hd hP7.1; clear hP7))
          go_roundw
          case rel => exact ⟨i + 1, by omega, by go_num, H7, Hb5.out.trans hb7⟩
          case measure => simp [intOf]; omega
        · have e : i = rows := by omega
          subst e
          go_wp2
          go_ret
          exact ⟨_, rfl, Ho.out, Hb.out⟩
end Go.Proofs.Ythgijjdkhffhcaa
