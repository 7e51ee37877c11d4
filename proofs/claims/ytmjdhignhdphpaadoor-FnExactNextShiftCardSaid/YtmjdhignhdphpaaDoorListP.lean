/- Shifts listed, the program's side. -/
import Derived.Test.YtmjdhignhdphpaaDoorProg
import Derived.Test.YtmjdhignhdphpaaDoorListK
import Derived.Test.YtmjdhignhdphpaaDoorShiftC
namespace Go.Proofs.YtmjdhignhdphpaaDoor
open Go.RowKit Plain
set_option linter.unusedVariables false
set_option linter.unusedSimpArgs false
attribute [local go_sem ↓] Go.wp_at_zero Go.wp_at_succ

/-- how many counts a listing may find out -/
def capN (m : Nat) : Nat := (m + 1) * 2 ^ m
theorem capN_succ (m : Nat) : capN (m + 1) = 2 ^ (m + 1) + 2 * capN m := by
  unfold capN
  rw [Nat.add_mul (m + 1) 1, Nat.one_mul, Nat.pow_succ, Nat.add_comm, ← Nat.mul_assoc, Nat.mul_comm ((m + 1) * 2 ^ m) 2]
theorem capN_pow (m : Nat) : 2 ^ m ≤ capN m := Nat.le_mul_of_pos_left _ (by omega)
theorem known_grew {w w' : World} {L : ShiftLim} {S : Int} {b n : Nat} {v : Value} {base e size k : Nat} (h : Known w L S b n) (hb : b < base) (hv : ∀ j, v.ownBlock = some j → base ≤ j) (hg : Grew w w' none v) : Known w' L S b n := by
  obtain ⟨D, ho, hk⟩ := h
  refine ⟨D, ho.kept (row := v.ownBlock) ⟨hg.os, hg.tape, hg.output, hg.size, fun k hk hne => hg.block k hk (by simp) (fun e => hne e.symm)⟩ (fun e => ?_), hk⟩
  have := hv b e.symm
  omega
theorem cbox_cells5 {w : World} {g : Nat} {a b c d e : Value} {t : TypeId} (h : CBox w g #[a, b, c, d, e] t) : w.cell? ⟨g, 0, none⟩ = some a ∧ w.cell? ⟨g, 1, none⟩ = some b ∧ w.cell? ⟨g, 2, none⟩ = some c ∧ w.cell? ⟨g, 3, none⟩ = some d ∧ w.cell? ⟨g, 4, none⟩ = some e := ⟨cbox_cell h 0, cbox_cell h 1, cbox_cell h 2, cbox_cell h 3, cbox_cell h 4⟩
theorem cbox_cells6 {w : World} {g : Nat} {a b c d e f : Value} {t : TypeId} (h : CBox w g #[a, b, c, d, e, f] t) : w.cell? ⟨g, 0, none⟩ = some a ∧ w.cell? ⟨g, 1, none⟩ = some b ∧ w.cell? ⟨g, 2, none⟩ = some c ∧ w.cell? ⟨g, 3, none⟩ = some d ∧ w.cell? ⟨g, 4, none⟩ = some e ∧ w.cell? ⟨g, 5, none⟩ = some f := ⟨cbox_cell h 0, cbox_cell h 1, cbox_cell h 2, cbox_cell h 3, cbox_cell h 4, cbox_cell h 5⟩
theorem known_drew {w : World} {L : ShiftLim} {S : Int} {b n : Nat} (h : Known w L S b n) : Known w.drew L S b n := known_below h (Below.refl _ _).drew
theorem grew_map {w w' : World} {b : Nat} (h : w.grownBy w' (some b)) (v : Value) : Grew w w' (some b) v := ⟨h.os, h.tape, h.output, h.size, fun k hk hb _ => h.block k hk hb⟩
theorem own_grown {w w' : World} {base size n b : Nat} {e : TypeId} {v : Value} {xs : List Value} (h : w.ownsRow base e size v n xs) (hg : w.grownBy w' (some b)) (hb : b < base) : w'.ownsRow base e size v n xs := by
  refine h.kept hg ?_
  cases hv : v.ownBlock with
  | none => exact .inl rfl
  | some k => exact .inr (fun e => by have := (World.ownsRow.lt h k hv).1; have := Option.some.inj e; omega)

set_option maxHeartbeats 4000000 in
set_option maxRecDepth 100000 in
theorem list_any (S least most row pause : Int) (b B cn : Nat) (hbB : b < B) (hS : 1 ≤ S ∧ S ≤ 24) (hl : 0 ≤ least ∧ least ≤ 24) (hm : 0 ≤ most ∧ most ≤ 24) (hr : 1 ≤ row ∧ row ≤ 24) (hp : 1 ≤ pause ∧ pause ≤ 24) (hcn : cn ≤ 64) (m : Nat) :
    ∀ (n : Nat) (t : ByteArray) (sl wk rw ps : Int) (bg : Bool) (v : Value) (out : List ByteArray) (w : World), sl + m = S → 0 ≤ sl → 0 ≤ wk → ps ≤ pause → goodS ⟨least, most, row, pause⟩ wk rw ps bg → Known w ⟨least, most, row, pause⟩ S b n → n + capN m ≤ 2 ^ 30 → (t.size : Int) = sl → out.length ≤ cn → B ≤ w.heap.size → w.ownsRow B 9 1 v out.length (strs out) →
    Calls Tryd.prog 18 #[.agg #[.int .i64 S, .int .i64 least, .int .i64 most, .int .i64 row, .int .i64 pause, .map (some b)], v, .string t, stV sl wk rw ps bg, .int .i64 cn] w fun e w' => ∃ u, e = .returned u ∧ w'.ownsRow B 9 1 u (fillS cn out (listS ⟨least, most, row, pause⟩ m (absS wk rw ps bg) t)).length (strs (fillS cn out (listS ⟨least, most, row, pause⟩ m (absS wk rw ps bg) t))) ∧ (∃ n', n' ≤ n + capN m ∧ Known w' ⟨least, most, row, pause⟩ S b n') ∧ Grew w w' (some b) v ∧ Later w v u := by
  induction m with
  | zero =>
    intro n t sl wk rw ps bg v out w e1 h0 hwk hps hg hk hn ht hlen hB ho
    have e2 : sl = S := by omega
    subst e2
    have HK := hd hk; have HG := hd hg; have HO := hd ho; have HBB := hd hB; have HN := hd hn
    obtain ⟨A, cap, rfl, hcap, _, _⟩ := own_rd ho (by unfold maxLen; omega)
    have ts : t.size ≤ 24 := by omega
    have hbW : Below w.heap.size w ((w.alloc (.cells #[.int .i64 sl, .int .i64 least, .int .i64 most, .int .i64 row, .int .i64 pause, .map (some b)] 45)).alloc (.cells #[.int .i64 sl, .int .i64 wk, .int .i64 rw, .int .i64 ps, .bool bg] 48)) := by go_grown
    have HbW := hd hbW
    have HKW := hd (known_below HK.out HbW.out)
    have x6 : ((w.alloc (.cells #[.int .i64 sl, .int .i64 least, .int .i64 most, .int .i64 row, .int .i64 pause, .map (some b)] 45)).alloc (.cells #[.int .i64 sl, .int .i64 wk, .int .i64 rw, .int .i64 ps, .bool bg] 48)).heap[w.heap.size]? = some (.cells #[.int .i64 sl, .int .i64 least, .int .i64 most, .int .i64 row, .int .i64 pause, .map (some b)] 45 (0, 0)) := by simp only [heap_alloc_get, World.size_alloc]; simp
    have x5 : ((w.alloc (.cells #[.int .i64 sl, .int .i64 least, .int .i64 most, .int .i64 row, .int .i64 pause, .map (some b)] 45)).alloc (.cells #[.int .i64 sl, .int .i64 wk, .int .i64 rw, .int .i64 ps, .bool bg] 48)).heap[w.heap.size + 1]? = some (.cells #[.int .i64 sl, .int .i64 wk, .int .i64 rw, .int .i64 ps, .bool bg] 48 (0, 0)) := by simp only [heap_alloc_get, World.size_alloc]; simp
    have H6 := hd (show CBox _ _ _ _ from x6)
    have H5 := hd (show CBox _ _ _ _ from x5)
    have CT := hd (fun w' h => count_any sl least most row pause b hS hl hm hr hp 0 n sl wk rw ps bg w' e1 h0 hwk hps HG.out h (by have := HN.out; have := capN_pow 0; omega))
    have LE := hd (show listS ⟨least, most, row, pause⟩ 0 (absS wk rw ps bg) t = if least ≤ wk then [t] else [] from rfl)
    have CE := hd (show cS ⟨least, most, row, pause⟩ 0 (absS wk rw ps bg) = if least ≤ wk then 1 else 0 from rfl)
    have K1 := hd (capN_pow 0)
    simp only [stV] at CT ⊢
    clear hk hg ho hB hn e1 hbW x6 x5
    by_cases hfull : out.length = cn
    · have E := hd (fun l => fill_full (l := l) hfull)
      subst hfull
      go_enter Tryd.func18, Tryd.ntmps18
      go_wp2
      go_ret
      rw [E.out]
      exact ⟨_, rfl, own_below HO.out HbW.out, ⟨n, by omega, HKW.out⟩, Grew.of_below HbW.out _ _, Later.refl _ _⟩
    · have hlt : out.length < cn := by omega
      obtain ⟨ln, hln⟩ : ∃ ln, ln = out.length := ⟨_, rfl⟩
      have HLN := hd hln
      rw [← hln] at hlt hfull HO hcap hlen ⊢
      clear hln
      have hq2 : ((ln : Int) == (cn : Int)) = false := by simp; omega
      have hc2 : ln + 1 ≤ 64 := by omega
      clear hfull
      by_cases hle : least ≤ wk
      · have E := hd (show fillS cn out (listS ⟨least, most, row, pause⟩ 0 (absS wk rw ps bg) t) = out ++ [t] by rw [LE.out, if_pos hle, fill_one (by rw [← HLN.out]; exact hlt)])
        have CE2 := CE.out
        rw [if_pos hle] at CE2
        rw [CE2] at CT
        clear CE2
        go_enter Tryd.func18, Tryd.ntmps18
        go_wp2_with (first
          | (go_at_call 24; refine (CT.out _ HKW.out).mono ?_; rintro e w2 ⟨rfl, ⟨n', hn', hk2⟩, hg2⟩; have HG2 := hd ((Grew.of_below HbW.out (some b) (.slice A ln cap)).trans (grew_map hg2 _) (Later.refl _ _)); have HO2 := hd (own_grown (own_below HO.out HbW.out) hg2 hbB); have H62 := hd (cbox_kept H6.out hg2 (by have := HBB.out; omega)); have H52 := hd (cbox_kept H5.out hg2 (by have := HBB.out; omega)); have HK2 := hd hk2; have HN2 := hd hn'; clear hk2 hn' hg2; obtain ⟨r0, r1, r2, r3, r4, r5⟩ := cbox_cells6 H62.out; obtain ⟨s0, s1, s2, s3, s4⟩ := cbox_cells5 H52.out)
          | (at_builtin; go_must (refine wpList_app_string _ _ _ rfl _ _ rfl B ln _ _ rfl HO2.out rfl _ rfl rfl (by omega) (Nat.le_trans HBB.out HG2.out.size) ?_); intro v' w4 ho4 hg4 hap))
        go_ret
        rw [E.out]
        refine ⟨_, rfl, ?_, ⟨n', by have := HN2.out; omega, ?_⟩, HG2.out.trans (Grew.of_row hg4 (some b)) (Later.refl _ _), fun k hk => later_of hap HG2.out.size k hk⟩
        · rw [List.length_append, ← HLN.out, ← strs_app]; exact ho4
        · exact known_kept HK2.out hg4 (fun e => by
            have h1 := (World.ownsRow.lt HO2.out b e.symm).1
            omega)
      · have E := hd (show fillS cn out (listS ⟨least, most, row, pause⟩ 0 (absS wk rw ps bg) t) = out by rw [LE.out, if_neg hle, fill_nil (by rw [← HLN.out]; omega)])
        have CE2 := CE.out
        rw [if_neg hle] at CE2
        rw [CE2] at CT
        clear CE2
        go_enter Tryd.func18, Tryd.ntmps18
        go_wp2_with (go_at_call 24; refine (CT.out _ HKW.out).mono ?_; rintro e w2 ⟨rfl, ⟨n', hn', hk2⟩, hg2⟩)
        go_ret
        rw [E.out, ← HLN.out]
        exact ⟨_, rfl, own_grown (own_below HO.out HbW.out) hg2 hbB, ⟨n', by omega, hk2⟩, (Grew.of_below HbW.out _ _).trans (grew_map hg2 _) (Later.refl _ _), Later.refl _ _⟩
  | succ m ih =>
    intro n t sl wk rw ps bg v out w e1 h0 hwk hps hg hk hn ht hlen hB ho
    have HK := hd hk; have HG := hd hg; have HO := hd ho; have HBB := hd hB; have IH := hd ih; have HN := hd hn; have E1 := hd e1; have HT := hd ht
    have CS := hd (capN_succ m)
    obtain ⟨A, cap, rfl, hcap, _, _⟩ := own_rd ho (by unfold maxLen; omega)
    have hvb := hd (show ∀ k, (Value.slice A out.length cap).ownBlock = some k → B ≤ k ∧ k < w.heap.size from fun k hk => (World.ownsRow.lt ho k hk))
    have hne : ¬ sl = S := by omega
    have ts : t.size ≤ 24 := by omega
    obtain ⟨p0, g1, g2, g3, _⟩ := id hg
    simp only at g1 g2
    have x6 : ((w.alloc (.cells #[.int .i64 S, .int .i64 least, .int .i64 most, .int .i64 row, .int .i64 pause, .map (some b)] 45)).alloc (.cells #[.int .i64 sl, .int .i64 wk, .int .i64 rw, .int .i64 ps, .bool bg] 48)).heap[w.heap.size]? = some (.cells #[.int .i64 S, .int .i64 least, .int .i64 most, .int .i64 row, .int .i64 pause, .map (some b)] 45 (0, 0)) := by simp only [heap_alloc_get, World.size_alloc]; simp
    have x5 : ((w.alloc (.cells #[.int .i64 S, .int .i64 least, .int .i64 most, .int .i64 row, .int .i64 pause, .map (some b)] 45)).alloc (.cells #[.int .i64 sl, .int .i64 wk, .int .i64 rw, .int .i64 ps, .bool bg] 48)).heap[w.heap.size + 1]? = some (.cells #[.int .i64 sl, .int .i64 wk, .int .i64 rw, .int .i64 ps, .bool bg] 48 (0, 0)) := by simp only [heap_alloc_get, World.size_alloc]; simp
    have hbW : Below w.heap.size w ((w.alloc (.cells #[.int .i64 S, .int .i64 least, .int .i64 most, .int .i64 row, .int .i64 pause, .map (some b)] 45)).alloc (.cells #[.int .i64 sl, .int .i64 wk, .int .i64 rw, .int .i64 ps, .bool bg] 48)) := by go_grown
    simp only [stV]
    clear ih hk hg ho hB hn e1 ht
    by_cases hfull : out.length = cn
    · have E := hd (fun l => fill_full (l := l) hfull)
      subst hfull
      clear x6 x5
      go_enter Tryd.func18, Tryd.ntmps18
      go_wp2
      go_ret
      rw [E.out]
      exact ⟨_, rfl, own_below HO.out hbW, ⟨n, by omega, known_below HK.out hbW⟩, Grew.of_below hbW _ _, Later.refl _ _⟩
    · have hlt : out.length < cn := by omega
      have CT := hd (fun w' h => count_any S least most row pause b hS hl hm hr hp (m + 1) n sl wk rw ps bg w' E1.out h0 hwk hps HG.out h (by have := HN.out; have := capN_pow (m + 1); omega))
      have LZ := hd (fun h => listS_nil (L := ⟨least, most, row, pause⟩) (m := m + 1) (s := absS wk rw ps bg) (t := t) h)
      have CL := cS_le ⟨least, most, row, pause⟩ (m + 1) (absS wk rw ps bg)
      obtain ⟨q, hq⟩ : ∃ q, q = cS ⟨least, most, row, pause⟩ (m + 1) (absS wk rw ps bg) := ⟨_, rfl⟩
      rw [← hq] at CT LZ CL
      clear hq
      obtain ⟨ln, hln⟩ : ∃ ln, ln = out.length := ⟨_, rfl⟩
      have HLN := hd hln
      rw [← hln] at hlt hfull HO hcap hlen hvb ⊢
      clear hln
      have H6 := hd (show CBox _ _ _ _ from x6)
      have H5 := hd (show CBox _ _ _ _ from x5)
      have HbW := hd hbW
      have HKW := hd (known_below HK.out hbW)
      have C2 := hd CL
      clear x6 x5 hbW CL
      simp only [stV] at CT
      by_cases hq0 : q = 0
      · subst hq0
        have E := hd (LZ.out rfl)
        go_enter Tryd.func18, Tryd.ntmps18
        go_wp2_with (go_at_call 24; refine (CT.out _ HKW.out).mono ?_; rintro e w2 ⟨rfl, ⟨n', hn', hk2⟩, hg2⟩)
        go_ret
        rw [E.out, fill_nil (by rw [← HLN.out]; omega), ← HLN.out]
        exact ⟨_, rfl, own_grown (own_below HO.out HbW.out) hg2 hbB, ⟨n', by have := CS.out; omega, hk2⟩, (Grew.of_below HbW.out _ _).trans (grew_map hg2 _) (Later.refl _ _), Later.refl _ _⟩
      · have hq1 : ((q : Int) == 0) = false := by simp; omega
        have hq2 : ((ln : Int) == (cn : Int)) = false := by simp; omega
        have hne2 : (sl == S) = false := by simp; omega
        go_enter Tryd.func18, Tryd.ntmps18
        go_wp2_with (go_at_call 24; refine (CT.out _ HKW.out).mono ?_; rintro e w2 ⟨rfl, ⟨n', hn', hk2⟩, hg2⟩; have HG2 := hd ((Grew.of_below HbW.out (some b) (.slice A ln cap)).trans (grew_map hg2 _) (Later.refl _ _)); have HO2 := hd (own_grown (own_below HO.out HbW.out) hg2 hbB); have H62 := hd (cbox_kept H6.out hg2 (by have := HBB.out; omega)); have H52 := hd (cbox_kept H5.out hg2 (by have := HBB.out; omega)); have HK2 := hd hk2; have HN2 := hd hn'; clear hk2 hn' hg2; obtain ⟨r0, r1, r2, r3, r4, r5⟩ := cbox_cells6 H62.out; obtain ⟨s0, s1, s2, s3, s4⟩ := cbox_cells5 H52.out)
        clear hne
        have HX := hd (show CBox (w2.alloc (.cells #[.bool false, .bool true] 4)) w2.heap.size #[.bool false, .bool true] 4 from by show (w2.alloc _).heap[w2.heap.size]? = _; rw [heap_alloc_get, if_pos rfl])
        have HA2 := hd ((Below.refl w2.heap.size w2).alloc (Nat.le_refl _) (.cells #[.bool false, .bool true] 4))
        have hsz2 : w.heap.size + 1 < w2.heap.size := (Array.getElem?_eq_some_iff.1 H52.out).1
        have HSZ2 := hd hsz2
        have NEB := hd (show ∀ (u : Value) (g : Nat), (∀ k, u.ownBlock = some k → (Value.slice A ln cap).ownBlock = some k ∨ w2.heap.size + 1 ≤ k) → w.heap.size ≤ g → g ≤ w2.heap.size → u.ownBlock ≠ some g from fun u g hL h1 h2 e => by
          rcases hL g e with h3 | h3
          · have := (hvb.out g h3).2; omega
          · omega)
        have NB := hd (show ∀ g, w.heap.size ≤ g → (some g : Option Nat) ≠ some b from fun g h1 e => by have := Option.some.inj e; have := HBB.out; omega)
        obtain ⟨L, hL⟩ : ∃ L : ShiftLim, L = ⟨least, most, row, pause⟩ := ⟨_, rfl⟩
        rw [← hL] at HG HK2 IH
        have HLE := hd hL
        have EOFF := hd (show absS wk 0 (min (ps + 1) pause) bg = (absS wk rw ps bg).off L by have hg := HG.out; rw [hL] at hg ⊢; exact abs_off _ hg)
        have GOFF := hd (show goodS L wk 0 (min (ps + 1) pause) bg by have hg := HG.out; rw [hL] at hg ⊢; exact good_off _ hp.1 (show (0 : Int) ≤ row by omega) hg)
        have HM := hd (show (absS wk rw ps bg).may L = !((bg && (decide (rw = 0) && decide (ps < pause))) || (decide (rw = row) || decide (wk = most))) from by have hg := HG.out; rw [hL] at hg ⊢; exact abs_may _ hg)
        have GON := hd (fun h => good_on L HG.out h)
        clear hL
        obtain ⟨mp, hmp⟩ : ∃ mp, mp = min (ps + 1) pause := ⟨_, rfl⟩
        rw [← hmp] at EOFF GOFF
        have HMP := hd hmp
        clear hmp
        obtain ⟨o1, ho1⟩ : ∃ o1, o1 = fillS cn out (listS L m ((absS wk rw ps bg).off L) (t ++ ⟨#[46]⟩)) := ⟨_, rfl⟩
        have HO1 := hd ho1
        have o1l := hd (show o1.length ≤ cn by rw [ho1]; exact fill_len)
        clear ho1
        go_loopw [1, 38] (fun cu ix wr => ∃ (k : Nat) (ol : List ByteArray) (n2 : Nat), k ≤ 2 ∧ ix = .int .i64 k ∧ Hid (ol = if k = 0 then out else if k = 1 then o1 else fillS cn out (listS L (m + 1) (absS wk rw ps bg) t)) ∧ Hid (ol.length ≤ cn) ∧ Hid (wr.ownsRow B 9 1 cu ol.length (strs ol)) ∧ Hid (n2 ≤ n + 2 ^ (m + 1) + k * capN m) ∧ Hid (Known wr L S b n2) ∧
          Hid (CBox wr w.heap.size #[.int .i64 S, .int .i64 least, .int .i64 most, .int .i64 row, .int .i64 pause, .map (some b)] 45) ∧ Hid (CBox wr (w.heap.size + 1) #[.int .i64 sl, .int .i64 wk, .int .i64 rw, .int .i64 ps, .bool bg] 48) ∧ Hid (CBox wr w2.heap.size #[.bool false, .bool true] 4) ∧
          Hid (Grew w wr (some b) (.slice A ln cap)) ∧ Hid (∀ k, cu.ownBlock = some k → (Value.slice A ln cap).ownBlock = some k ∨ w2.heap.size + 1 ≤ k) ∧ Hid (w2.heap.size + 1 ≤ wr.heap.size)) (fun _ ix _ => 2 - (intOf ix).toNat)
        case atStart => exact ⟨0, out, n', by omega, rfl, hd rfl, hd (by rw [← HLN.out]; omega), hd (by rw [← HLN.out]; exact own_below HO2.out HA2.out), hd (by have := HN2.out; omega), hd (known_below HK2.out HA2.out), hd (cbox_below H62.out HA2.out), hd (cbox_below H52.out HA2.out), HX, hd (HG2.out.trans (Grew.of_below HA2.out _ _) (Later.refl _ _)), hd (fun k hk => .inl hk), hd (by simp)⟩
        case round =>
          clear r0 r1 r2 r3 r4 r5 s0 s1 s2 s3 s4 H62 H52 HO2 HK2 HX HA2 HG2 hsz2 HKW H6 H5 HbW
          obtain ⟨k, ol, n2, hk2, rfl, HOL, HLL, HOW, HNN, HKN, B6, B5, BX, HGR, HLT, HSZ⟩ := hrel
          obtain ⟨r0, r1, r2, r3, r4, r5⟩ := cbox_cells6 B6.out
          obtain ⟨s0, s1, s2, s3, s4⟩ := cbox_cells5 B5.out
          have f0 := (cbox_cell BX.out 0).trans rfl
          have f1 := (cbox_cell BX.out 1).trans rfl
          rcases (show k = 0 ∨ k = 1 ∨ k = 2 by omega) with rfl | rfl | rfl
          · have hol : ol = out := HOL.out
            subst hol
            have N := next_free S least most row pause sl wk rw ps bg (by have := E1.out; push_cast at this; omega) h0 hS.2 p0 (by omega) hp.1 hp.2
            rw [← HMP.out] at N
            simp only [stV] at N
            have NH := hd N
            clear N
            have I := hd (fun u w' hb1 hk1 ho1 => IH.out n2 (t ++ ⟨#[46]⟩) (sl + 1) wk 0 mp bg u ol w' (by have := E1.out; push_cast at this; omega) (by omega) hwk (by have := HMP.out; omega) GOFF.out hk1 (by have := HN.out; have := CS.out; have := HNN.out; omega) (by have := HT.out; simp only [ByteArray.size_append]; have e : (ByteArray.mk #[46]).size = 1 := rfl; omega) HLL.out hb1 ho1)
            rw [EOFF.out, ← HO1.out] at I
            simp only [stV] at I
            go_wp2_with (go_at_call 17; refine (NH.out _).mono ?_; rintro e w4 ⟨rfl, hb4⟩; have HB4 := hd (below_tr ((Below.refl w4.heap.size w4).alloc (Nat.le_refl _) (.cells #[.int .i64 (sl + 1), .int .i64 wk, .int .i64 0, .int .i64 mp, .bool bg] 48)) hb4); clear hb4)
            obtain ⟨W4, hW4⟩ : ∃ W4, W4 = w4.alloc (.cells #[.int .i64 (sl + 1), .int .i64 wk, .int .i64 0, .int .i64 mp, .bool bg] 48) := ⟨_, rfl⟩
            have HN4 := hd (show CBox W4 w4.heap.size #[.int .i64 (sl + 1), .int .i64 wk, .int .i64 0, .int .i64 mp, .bool bg] 48 from by rw [hW4]; show (w4.alloc _).heap[w4.heap.size]? = _; rw [heap_alloc_get, if_pos rfl])
            rw [← hW4] at HB4
            rw [← hW4]
            clear hW4 r0 r1 r2 r3 r4 r5 s0 s1 s2 s3 s4 f0 f1
            have B64 := hd (cbox_below B6.out HB4.out)
            obtain ⟨r0, r1, r2, r3, r4, r5⟩ := cbox_cells6 B64.out
            obtain ⟨s0, s1, s2, s3, s4⟩ := cbox_cells5 HN4.out
            have HK4 := hd (known_below HKN.out HB4.out)
            have HO4 := hd (own_below HOW.out HB4.out)
            have HS4 := hd (show B ≤ W4.heap.size from Nat.le_trans (Nat.le_trans HBB.out HGR.out.size) HB4.out.size)
            go_region_with (go_at_call 18; refine (I.out _ _ ?_ ?_ ?_).mono ?_; exact HS4.out; exact known_drew HK4.out; exact HO4.out; rintro e w5 ⟨u5, rfl, ho5, ⟨n5, hn5, hk5⟩, hg5, hl5⟩; have HO5 := hd ho5; have HN5 := hd hn5; have HK5 := hd hk5; have HG5 := hd hg5; have HL5 := hd hl5; clear ho5 hn5 hk5 hg5 hl5)
            all_goals
              have GB5 := hd ((Grew.of_below HB4.out (some b) u1).trans ((Grew.of_below ((Below.refl _ _).drew) (some b) u1).trans HG5.out (Later.refl _ _)) (Later.refl _ _))
              have LT5 := hd (fun k hk => (HL5.out k hk).elim (HLT.out k) (fun h => .inr (Nat.le_trans HSZ.out (Nat.le_trans HB4.out.size h))))
              go_wp2
              go_roundw
              case rel => exact ⟨1, o1, n5, by omega, by go_num, hd (by simp), hd o1l, HO5, hd (by have := HN5.out; have := HNN.out; omega), HK5, hd (cbox_grew B6.out GB5.out (NB.out _ (Nat.le_refl _)) (NEB.out _ _ HLT.out (Nat.le_refl _) (by have := HSZ2.out; omega))), hd (cbox_grew B5.out GB5.out (NB.out _ (by omega)) (NEB.out _ _ HLT.out (by omega) (by have := HSZ2.out; omega))), hd (cbox_grew BX.out GB5.out (NB.out _ (by have := HSZ2.out; omega)) (NEB.out _ _ HLT.out (by have := HSZ2.out; omega) (Nat.le_refl _))), hd (HGR.out.trans GB5.out (fun k hk => (HLT.out k hk).imp id (fun h => by have := HSZ2.out; omega))), LT5, hd (Nat.le_trans HSZ.out GB5.out.size)⟩
              case measure => simp [intOf]
          · obtain rfl : ol = o1 := HOL.out
            cases hb : ((bg && (decide (rw = 0) && decide (ps < pause))) || (decide (rw = row) || decide (wk = most))) with
            | true =>
              have N := next_no S least most row pause sl wk rw ps bg (by have := E1.out; push_cast at this; omega) h0 hS.2 hb
              simp only [stV] at N
              have NH := hd N
              have hmf := HM.out
              rw [hb] at hmf
              have E := hd (show fillS cn out (listS L (m + 1) (absS wk rw ps bg) t) = ol by rw [HO1.out, listS, hmf]; simp)
              clear N hb hmf
              go_wp2_with (go_at_call 17; refine (NH.out _).mono ?_; rintro e w4 ⟨rfl, hb4⟩; have HB4 := hd (below_tr ((Below.refl w4.heap.size w4).alloc (Nat.le_refl _) (.cells #[.int .i64 (sl + 1), .int .i64 wk, .int .i64 rw, .int .i64 ps, .bool bg] 48)) hb4); clear hb4)
              go_roundw
              case rel => exact ⟨2, ol, n2, by omega, by go_num, hd (by rw [E.out]; simp), HLL, own_below HOW.out HB4.out, hd (by have := HNN.out; omega), hd (known_below HKN.out HB4.out), hd (cbox_below B6.out HB4.out), hd (cbox_below B5.out HB4.out), hd (cbox_below BX.out HB4.out), hd (HGR.out.trans (Grew.of_below HB4.out _ _) (fun k hk => (HLT.out k hk).imp id (fun h => by have := HSZ2.out; omega))), HLT, hd (Nat.le_trans HSZ.out HB4.out.size)⟩
              case measure => simp [intOf]
            | false =>
              have N := next_yes S least most row pause sl wk rw ps bg (by have := E1.out; push_cast at this; omega) h0 hS.2 hwk (by omega) g3 (by omega) hb
              simp only [stV] at N
              have NH := hd N
              have hmt := HM.out
              rw [hb] at hmt
              obtain ⟨o2, ho2⟩ : ∃ o2, o2 = fillS cn ol (listS L m (absS (wk + 1) (rw + 1) 0 true) (t ++ ⟨#[119]⟩)) := ⟨_, rfl⟩
              have o2l := hd (show o2.length ≤ cn by rw [ho2]; exact fill_len)
              have E := hd (show fillS cn out (listS L (m + 1) (absS wk rw ps bg) t) = o2 by rw [listS, hmt, ← fill_app, ← HO1.out, ho2, abs_on wk rw ps bg]; rfl)
              have I := hd (fun u w' hb1 hk1 ho1 => IH.out n2 (t ++ ⟨#[119]⟩) (sl + 1) (wk + 1) (rw + 1) 0 true u ol w' (by have := E1.out; push_cast at this; omega) (by omega) (by omega) (by omega) (GON.out hmt) hk1 (by have := HN.out; have := CS.out; have := HNN.out; omega) (by have := HT.out; simp only [ByteArray.size_append]; have e : (ByteArray.mk #[119]).size = 1 := rfl; omega) HLL.out hb1 ho1)
              rw [← ho2] at I
              simp only [stV] at I
              clear N hb hmt ho2
              go_wp2_with (go_at_call 17; refine (NH.out _).mono ?_; rintro e w4 ⟨rfl, hb4⟩; have HB4 := hd (below_tr ((Below.refl w4.heap.size w4).alloc (Nat.le_refl _) (.cells #[.int .i64 (sl + 1), .int .i64 (wk + 1), .int .i64 (rw + 1), .int .i64 0, .bool true] 48)) hb4); clear hb4)
              obtain ⟨W4, hW4⟩ : ∃ W4, W4 = w4.alloc (.cells #[.int .i64 (sl + 1), .int .i64 (wk + 1), .int .i64 (rw + 1), .int .i64 0, .bool true] 48) := ⟨_, rfl⟩
              have HN4 := hd (show CBox W4 w4.heap.size #[.int .i64 (sl + 1), .int .i64 (wk + 1), .int .i64 (rw + 1), .int .i64 0, .bool true] 48 from by rw [hW4]; show (w4.alloc _).heap[w4.heap.size]? = _; rw [heap_alloc_get, if_pos rfl])
              rw [← hW4] at HB4
              rw [← hW4]
              clear hW4 r0 r1 r2 r3 r4 r5 s0 s1 s2 s3 s4 f0 f1
              have B64 := hd (cbox_below B6.out HB4.out)
              obtain ⟨r0, r1, r2, r3, r4, r5⟩ := cbox_cells6 B64.out
              obtain ⟨s0, s1, s2, s3, s4⟩ := cbox_cells5 HN4.out
              have HK4 := hd (known_below HKN.out HB4.out)
              have HO4 := hd (own_below HOW.out HB4.out)
              have HS4 := hd (show B ≤ W4.heap.size from Nat.le_trans (Nat.le_trans HBB.out HGR.out.size) HB4.out.size)
              go_region_with (go_at_call 18; refine (I.out _ _ ?_ ?_ ?_).mono ?_; exact HS4.out; exact known_drew HK4.out; exact HO4.out; rintro e w5 ⟨u5, rfl, ho5, ⟨n5, hn5, hk5⟩, hg5, hl5⟩; have HO5 := hd ho5; have HN5 := hd hn5; have HK5 := hd hk5; have HG5 := hd hg5; have HL5 := hd hl5; clear ho5 hn5 hk5 hg5 hl5)
              all_goals
                have GB5 := hd ((Grew.of_below HB4.out (some b) u1).trans ((Grew.of_below ((Below.refl _ _).drew) (some b) u1).trans HG5.out (Later.refl _ _)) (Later.refl _ _))
                have LT5 := hd (fun k hk => (HL5.out k hk).elim (HLT.out k) (fun h => .inr (Nat.le_trans HSZ.out (Nat.le_trans HB4.out.size h))))
                go_wp2
                go_roundw
                case rel => exact ⟨2, o2, n5, by omega, by go_num, hd (by rw [E.out]; simp), o2l, HO5, hd (by have := HN5.out; have := HNN.out; omega), HK5, hd (cbox_grew B6.out GB5.out (NB.out _ (Nat.le_refl _)) (NEB.out _ _ HLT.out (Nat.le_refl _) (by have := HSZ2.out; omega))), hd (cbox_grew B5.out GB5.out (NB.out _ (by omega)) (NEB.out _ _ HLT.out (by omega) (by have := HSZ2.out; omega))), hd (cbox_grew BX.out GB5.out (NB.out _ (by have := HSZ2.out; omega)) (NEB.out _ _ HLT.out (by have := HSZ2.out; omega) (Nat.le_refl _))), hd (HGR.out.trans GB5.out (fun k hk => (HLT.out k hk).imp id (fun h => by have := HSZ2.out; omega))), LT5, hd (Nat.le_trans HSZ.out GB5.out.size)⟩
                case measure => simp [intOf]
          · have E := hd (show fillS cn out (listS L (m + 1) (absS wk rw ps bg) t) = ol by rw [HOL.out]; rfl)
            go_wp2
            go_ret
            have hL := HLE.out
            subst hL
            rw [E.out]
            exact ⟨_, rfl, HOW.out, ⟨n2, by have := HNN.out; have := CS.out; omega, HKN.out⟩, HGR.out, fun k hk => (HLT.out k hk).imp id (fun h => by have := HSZ2.out; omega)⟩
end Go.Proofs.YtmjdhignhdphpaaDoor
