/- The reference's search for a ring of a size: its answer as the same function. -/
import Derived.Test.YtclkgfcehmmgaaaProg
import Derived.Test.YtclkgfcehmmgaaaSlowR
import Derived.Test.YtclkgfcehmmgaaaRingP
import Derived.Test.YtclkgfcehmmgaaaStepList
import Derived.Test.YtclkgfcehmmgaaaStepApp
import Derived.Deep.CutRange
import Derived.Deep.RegionHeld3
import Derived.Test.YtclkgfcehmmgaaaBits
import Derived.Test.YtclkgfcehmmgaaaSums
namespace Go.Proofs.Ytclkgfcehmmgaaa
open Go.RowKit Plain
set_option linter.unusedVariables false
set_option linter.unusedSimpArgs false
attribute [local go_sem ↓] Go.wp_at_zero Go.wp_at_succ
/-- the rest of a way that has r arcs to go -/
def resF (l : List Q4) (z : Q4 → Int) (st : Int) (r : Nat) (at' : Int) (S : Nat) (wt : Int) : Option (List Nat) :=
  if r = 0 then (if at' = st ∧ wt = 0 then some [] else none) else if at' = st then none else goR l z st r at' S wt
theorem goF_res (l : List Q4) (z : Q4 → Int) (st : Int) (r : Nat) (at' : Int) (S : Nat) (wt : Int) (i : Nat) (a : Q4) :
    goF l z st r at' S wt i a = if a.a ≠ at' ∨ a.b < st ∨ (a.b ≠ st ∧ S.testBit a.b.toNat = true) then none else (resF l z st r a.b (S ||| 2 ^ a.b.toNat) (wt + z a)).map (i :: ·) := by
  rw [goF, resF]
  by_cases h1 : a.a ≠ at' ∨ a.b < st
  · rw [if_pos h1, if_pos (by rcases h1 with h | h; exact .inl h; exact .inr (.inl h))]
  · rw [if_neg h1]
    have h2 : ¬ a.a ≠ at' := fun h => h1 (.inl h)
    have h3 : ¬ a.b < st := fun h => h1 (.inr h)
    by_cases hr : r = 0
    · rw [if_pos hr, if_pos hr]
      by_cases hb : a.b = st
      · rw [if_neg (show ¬ (a.a ≠ at' ∨ a.b < st ∨ (a.b ≠ st ∧ S.testBit a.b.toNat = true)) by rintro (h | h | h); exact h2 h; exact h3 h; exact h.1 hb)]
        by_cases hw : wt + z a = 0
        · rw [if_pos ⟨hb, hw⟩, if_pos ⟨hb, hw⟩]; rfl
        · rw [if_neg (fun h => hw h.2), if_neg (fun h => hw h.2)]; rfl
      · have e1 : ¬ (a.b = st ∧ wt + z a = 0) := fun h => hb h.1
        simp only [if_neg e1]
        split <;> rfl
    · rw [if_neg hr, if_neg hr]
      by_cases hb : a.b = st
      · rw [if_pos (.inl hb), if_pos hb]
        split <;> rfl
      · rw [if_neg hb]
        by_cases hs : S.testBit a.b.toNat = true
        · rw [if_pos (.inr hs), if_pos (.inr (.inr ⟨hb, hs⟩))]
        · rw [if_neg (by rintro (h | h); exact hb h; exact hs h), if_neg (by rintro (h | h | h); exact h2 h; exact h3 h; exact hs h.2)]
/-- the first arc of a ring -/
theorem topF_res (l : List Q4) (z : Q4 → Int) (s : Nat) (hs : 1 ≤ s) (i : Nat) (a : Q4) : topF l z s i a = if a.b < a.a then none else (resF l z a.a (s - 1) a.b (2 ^ a.a.toNat ||| 2 ^ a.b.toNat) (z a)).map (i :: ·) := by
  rw [topF, resF]
  by_cases h1 : a.b < a.a
  · rw [if_pos h1, if_pos h1]
  · rw [if_neg h1, if_neg h1]
    by_cases h2 : s = 1
    · have e : s - 1 = 0 := by omega
      rw [if_pos h2, if_pos e]
      by_cases h3 : a.b = a.a ∧ z a = 0
      · rw [if_pos h3, if_pos h3]; rfl
      · rw [if_neg h3, if_neg h3]; rfl
    · have e : ¬ s - 1 = 0 := by omega
      rw [if_neg h2, if_neg e]
      by_cases h3 : a.b = a.a
      · rw [if_pos h3, if_pos h3]; rfl
      · rw [if_neg h3, if_neg h3]
/-- a way and one arc more -/
theorem path_snoc {l : List Q4} {x e : Int} {p : List Nat} {q : List Q4} {i : Nat} {a : Q4} (h : PathQ l x p q e) (hi : l[i]? = some a) (ha : a.a = e) : PathQ l x (p ++ [i]) (q ++ [a]) a.b := by
  induction p generalizing q x with
  | nil =>
    cases q with
    | nil =>
      have h : x = e := h
      exact ⟨hi, ha.trans h.symm, rfl⟩
    | cons _ _ => exact h.elim
  | cons j p ih =>
    cases q with
    | nil => exact h.elim
    | cons b q =>
      obtain ⟨h1, h2, h3⟩ := h
      exact ⟨h1, h2, ih h3⟩
theorem keep_al {w w' : World} {a : Addr} {v : Value} {Z : Obj} (h : w'.cell? a = some v ∧ Below w.heap.size w w') : (w'.alloc Z).cell? a = some v ∧ Below w.heap.size w (w'.alloc Z) := ⟨below_at ((Below.refl _ _).alloc (Nat.le_refl _) _) h.1, below_tr ((Below.refl _ _).alloc (Nat.le_refl _) _) h.2⟩
theorem keep_dr {w w' : World} {a : Addr} {v : Value} (h : w'.cell? a = some v ∧ Below w.heap.size w w') : w'.drew.cell? a = some v ∧ Below w.heap.size w w'.drew := ⟨below_at (drew_below (Below.refl _ _)) h.1, below_tr (drew_below (Below.refl _ _)) h.2⟩
theorem keep_to {w w' w'' : World} {a : Addr} {v : Value} (hb : Below w'.heap.size w' w'') (h : w'.cell? a = some v ∧ Below w.heap.size w w') : w''.cell? a = some v ∧ Below w.heap.size w w'' := ⟨below_at hb h.1, below_tr hb h.2⟩
theorem keep_row {w w' w'' : World} {a : Addr} {v : Value} {g : Nat} (hg : w'.grownBy w'' (some g)) (h1 : w.heap.size ≤ g) (h2 : a.block < w.heap.size) (h : w'.cell? a = some v ∧ Below w.heap.size w w') : w''.cell? a = some v ∧ Below w.heap.size w w'' := by
  refine ⟨hg.cell h.1 (fun e => by cases e; omega), below_row hg h.2 (fun k e => by cases e; exact h1)⟩
theorem cellA (w : World) (A : Obj) (v : Value) (t : TypeId) : ((w.alloc A).alloc (.cells #[v] t)).drew.cell? ⟨(w.alloc A).heap.size, 0, none⟩ = some v := (World.cell?_alloc_new ..).trans rfl
theorem cellA' (w : World) (A : Obj) (v : Value) (t : TypeId) : ((w.alloc A).alloc (.cells #[v] t)).drew.cell? ⟨w.heap.size + 1, 0, none⟩ = some v := by
  have h := cellA w A v t
  rwa [show (w.alloc A).heap.size = w.heap.size + 1 by simp] at h
theorem cellB (w : World) (B : Obj) (v : Value) (t : TypeId) : ((w.alloc (.cells #[v] t)).alloc B).drew.cell? ⟨w.heap.size, 0, none⟩ = some v := below_at (w := w.alloc (.cells #[v] t)) (drew_below ((Below.refl _ _).alloc (Nat.le_refl _) _)) ((World.cell?_alloc_new ..).trans rfl)
theorem keep_start {w w' : World} {a : Addr} {v : Value} (hc : w'.cell? a = some v) (hb : Below w.heap.size w w') : w'.cell? a = some v ∧ Below w.heap.size w w' := ⟨hc, hb⟩
theorem own_form {w : World} {base n : Nat} {t : TypeId} {u : Value} {xs : List Value} (hn : 1 ≤ n) (h : w.ownsRow base t 1 u n xs) : ∃ g cap, u = .slice (some ⟨g, 0, none⟩) n cap := by
  rcases h.2 with ⟨h5, h6⟩ | ⟨g, cap, cur, h5, h6⟩
  · omega
  · exact ⟨g, cap, h5⟩
/-- the reference's search, r arcs to go -/
def RingC (l : List Q4) (v : Value) (count : Nat) (lg q st : Int) (w0 : World) (r : Nat) : Prop :=
  ∀ (at' : Int) (S : Nat) (way : List Nat) (qz : List Q4) (u : Value) (w : World), way.length + r = count → 1 ≤ way.length → S < 4096 → Hid (Below w0.heap.size w0 w) → Hid (PathQ l st way qz at') → Hid (w.ownsRow w0.heap.size 2 1 u way.length (way.map fun i : Nat => vi (i : Int))) →
    Calls Try.prog 41 #[v, u, .int .i64 S, .int .i64 count, .int .i64 lg, .int .i64 q] w fun e w' => Below w.heap.size w w' ∧
      ((resF l (fun a => q * a.c - lg * a.d) st r at' S (sumQ (fun a => q * a.c - lg * a.d) qz) = none ∧ ∃ x, e = .returned (.tuple #[x, .bool false])) ∨
       ∃ p x, resF l (fun a => q * a.c - lg * a.d) st r at' S (sumQ (fun a => q * a.c - lg * a.d) qz) = some p ∧ e = .returned (.tuple #[x, .bool true]) ∧ w'.ownsRow w0.heap.size 2 1 x (way ++ p).length ((way ++ p).map fun i : Nat => vi (i : Int)))
set_option maxHeartbeats 4000000 in
set_option maxRecDepth 100000 in
theorem ring_step (l : List Q4) (v : Value) (n count : Nat) (lg q st : Int) (w0 : World) (hA : Sl w0 4 v n (q4s l)) (hsz : count ≤ 12) (hl : l.length = n) (n32 : n ≤ 32) (ha : ∀ a ∈ l, arcB (12 : Int) a = true) (l0 : 0 ≤ lg) (l1 : lg ≤ 12000) (q0 : 1 ≤ q) (q1 : q ≤ 120) (st0 : 0 ≤ st)
    (r : Nat) (IH : Hid (∀ r', r = r' + 1 → RingC l v count lg q st w0 r')) : RingC l v count lg q st w0 r := by
  intro at' S way qz u w hlen hl1 hS HB0 HPath HO
  have HA0 := hd hA
  obtain ⟨A, cap, rfl, hcap, hr⟩ := hA
  have HA := hd hr
  have HAR := hd ha
  have HL := hd hl
  obtain ⟨f1, f2, _, f4, f5, _, f7⟩ := path_facts way qz st at' HPath.out
  obtain ⟨i0, hi0⟩ : ∃ i, way[0]? = some i := ⟨_, List.getElem?_eq_getElem (by omega)⟩
  obtain ⟨iN, hiN⟩ : ∃ i, way[way.length - 1]? = some i := ⟨_, List.getElem?_eq_getElem (by omega)⟩
  obtain ⟨a0, ha0⟩ : ∃ a, qz[0]? = some a := ⟨_, List.getElem?_eq_getElem (by omega)⟩
  obtain ⟨aN, haN⟩ : ∃ a, qz[qz.length - 1]? = some a := ⟨_, List.getElem?_eq_getElem (by omega)⟩
  have e0 := f5 a0 ha0
  have eN := f7 aN haN
  have g0 := f4 0 i0 hi0
  rw [ha0] at g0
  have gN := f4 _ iN hiN
  rw [← f1, haN] at gN
  have h0n : i0 < n := by have := (List.getElem?_eq_some_iff.1 g0).1; omega
  have hNn : iN < n := by have := (List.getElem?_eq_some_iff.1 gN).1; omega
  obtain ⟨Au, cu, rfl, hcu, hru⟩ := own_sl HO.out (by unfold maxLen; omega)
  obtain ⟨bu, ou, rfl, hcell⟩ := hru.2.2 (by omega)
  have w0c := hcell 0 (.int .i64 (i0 : Int)) (by rw [List.getElem?_map, hi0]; rfl)
  have wNc := hcell (way.length - 1) (.int .i64 (iN : Int)) (by rw [List.getElem?_map, hiN]; rfl)
  obtain ⟨bb, off, x, y, c, d, rfl, hq, p0, _, _, _⟩ := (HA.out.below HB0.out).q4 h0n
  obtain ⟨_, _, x', y', c', d', e, hq', _, p1, _, _⟩ := (HA.out.below HB0.out).q4 hNn
  cases e
  have ex : x = st := by
    have h := hq.out.symm.trans g0
    cases h
    exact e0
  have ey : y' = at' := by
    have h := hq'.out.symm.trans gN
    cases h
    exact eN
  subst ex ey
  have z2 : (way.length : Int) - 1 = ((way.length - 1 : Nat) : Int) := by omega
  have i1 : (0 : Int) < (way.length : Int) := by omega
  have i2 : (i0 : Int) < (n : Int) := by omega
  have i3 : (iN : Int) < (n : Int) := by omega
  have i4 : way.length - 1 < way.length := by omega
  have HR := hd hru
  have SU := hd (fun w' (hb : Below w.heap.size w w') => l05Sums_any (.slice (some ⟨bb, off, none⟩) n cap) (.slice (some ⟨bu, ou, none⟩) way.length cu) l qz way w' (by rw [hl]; exact (HA0.out.below HB0.out).below hb) (Sl.below ⟨_, _, rfl, hcu, hru⟩ hb) (by omega) (fun a h => arcs_bd ha a (f2 a h)))
  obtain ⟨z, hz⟩ : ∃ z : Q4 → Int, z = fun a => q * a.c - lg * a.d := ⟨_, rfl⟩
  have HZ := hd hz
  have bc := take_bd (f := Q4.c) (l := qz) (M := 1000) (by omega) (fun a h => (arcs_bd ha a (f2 a h)).1) (by omega) qz.length
  have bd := take_bd (f := Q4.d) (l := qz) (M := 10) (by omega) (fun a h => (arcs_bd ha a (f2 a h)).2) (by omega) qz.length
  rw [List.take_length] at bc bd
  have sl : sumQ z qz = q * sumQ Q4.c qz - lg * sumQ Q4.d qz := by rw [hz]; exact sumQ_lin _ _ _
  have HX := hd (show qz = way.map (fun i => l[i]?.getD ⟨0, 0, 0, 0⟩) from by
    apply List.ext_getElem?
    intro j
    rw [List.getElem?_map]
    rcases Nat.lt_or_ge j way.length with h | h
    · have e := f4 j way[j] (List.getElem?_eq_getElem h)
      rw [List.getElem?_eq_getElem h, Option.map_some, e, List.getElem?_eq_getElem (by omega : j < qz.length)]
      rfl
    · rw [List.getElem?_eq_none (by omega), List.getElem?_eq_none h]; rfl)
  have HXI := hd (show ∀ i ∈ way, i < l.length from fun i hi => by
    obtain ⟨j, hj, e⟩ := List.getElem_of_mem hi
    have e2 := f4 j i (by rw [List.getElem?_eq_getElem hj, e])
    rw [List.getElem?_eq_getElem (by omega : j < qz.length)] at e2
    exact (List.getElem?_eq_some_iff.1 e2).1)
  rw [Nat.add_zero] at w0c
  clear hz hcell f1 f2 f4 f5 f7 hi0 hiN ha0 haN e0 eN g0 gN hq hq' hru hr ha HA0
  go_enter Try.func41, Try.ntmps41
  go_upto_region 3 with fail
  rcases Nat.eq_zero_or_pos r with r0 | r0
  · subst r0
    have hc1 : (way.length : Int) = (count : Int) := by omega
    have hc2 : ((way.length : Int) == (count : Int)) = true := by simp [hc1]
    have SU2 := hd (fun w' hb => SU.out w' hb HX.out HXI.out (by have := HL.out; omega))
    obtain ⟨cS, hcS⟩ : ∃ cS, cS = sumQ Q4.c qz := ⟨_, rfl⟩
    obtain ⟨dS, hdS⟩ : ∃ dS, dS = sumQ Q4.d qz := ⟨_, rfl⟩
    rw [← hcS] at bc sl SU2
    rw [← hdS] at bd sl SU2
    have m1 : 0 ≤ cS * q := Int.mul_nonneg bc.1 (by omega)
    have m2 : cS * q ≤ 12000 * 120 := Int.mul_le_mul bc.2 q1 (by omega) (by omega)
    have m3 : 0 ≤ lg * dS := Int.mul_nonneg l0 bd.1
    have m4 : lg * dS ≤ 12000 * 120 := Int.mul_le_mul l1 bd.2 bd.1 (by omega)
    have HSL := hd sl
    have hmc : q * cS = cS * q := Int.mul_comm _ _
    have HMC := hd hmc
    have hc3 := hd hlen
    clear hcS hdS SU sl hmc hc1 w0c wNc z2 p0 p1 hlen
    by_cases hxy : y' = x
    · subst hxy
      by_cases hw : cS * q = lg * dS
      · have HR0 := hd (show resF l z y' 0 y' S (sumQ z qz) = some [] by rw [resF, if_pos rfl, if_pos ⟨rfl, by rw [HSL.out, HMC.out, hw]; omega⟩])
        have hw2 : (cS * q == lg * dS) = true := by simp [hw]
        clear hw
        go_wp2_with (go_at_call 48; refine (SU2.out _ (Below.refl _ _)).mono ?_; rintro e w2 ⟨rfl, hb2⟩)
        go_ret2
        refine ⟨hb2, .inr ⟨[], _, by rw [← HZ.out]; exact HR0.out, rfl, ?_⟩⟩
        rw [List.append_nil]
        exact own_below HO.out hb2
      · have HR0 := hd (show resF l z y' 0 y' S (sumQ z qz) = none by rw [resF, if_pos rfl, if_neg (fun h => hw (by have := h.2; rw [HSL.out, HMC.out] at this; omega))])
        have hw2 : (cS * q == lg * dS) = false := by simp [hw]
        clear hw
        go_wp2_with (go_at_call 48; refine (SU2.out _ (Below.refl _ _)).mono ?_; rintro e w2 ⟨rfl, hb2⟩)
        go_ret2
        exact ⟨hb2, .inl ⟨by rw [← HZ.out]; exact HR0.out, _, rfl⟩⟩
    · have HR0 := hd (show resF l z x 0 y' S (sumQ z qz) = none by rw [resF, if_pos rfl, if_neg (fun h => hxy h.1)])
      have hxy2 : (y' == x) = false := by simp [hxy]
      go_wp2_with (go_at_call 48; refine (SU2.out _ (Below.refl _ _)).mono ?_; rintro e w2 ⟨rfl, hb2⟩)
      go_ret2
      exact ⟨hb2, .inl ⟨by rw [← HZ.out]; exact HR0.out, _, rfl⟩⟩
  · obtain ⟨r', rfl⟩ : ∃ r', r = r' + 1 := ⟨r - 1, by omega⟩
    have hc1 : ¬ (way.length : Int) = (count : Int) := by omega
    have hc2 : ((way.length : Int) == (count : Int)) = false := by simp [hc1]
    clear SU HX HXI bc bd sl w0c wNc z2 p0 p1
    by_cases hxy : y' = x
    · subst hxy
      have HR0 := hd (show resF l z y' (r' + 1) y' S (sumQ z qz) = none by rw [resF, if_neg (by omega), if_pos rfl])
      have hh := hd hlen
      clear hlen
      go_wp2
      go_ret2
      exact ⟨Below.refl _ _, .inl ⟨by rw [← HZ.out]; exact HR0.out, _, rfl⟩⟩
    · have hxy2 : (y' == x) = false := by simp [hxy]
      have HRG := hd (show resF l z x (r' + 1) y' S (sumQ z qz) = goR l z x (r' + 1) y' S (sumQ z qz) by rw [resF, if_neg (by omega), if_neg hxy])
      have HLEN := hd hlen
      clear hlen
      go_wp2
      go_loopw [67] (fun ix wr => ∃ k : Nat, k ≤ n ∧ ix = .int .i64 k ∧ Hid (∀ j a, j < k → l[j]? = some a → goF l z x r' y' S (sumQ z qz) j a = none) ∧ Hid (Below w.heap.size w wr)) (fun ix _ => n - (intOf ix).toNat)
      case atStart => exact ⟨0, by omega, rfl, hd (fun j a hj => absurd hj (by omega)), hd (Below.refl _ _)⟩
      case round =>
        obtain ⟨k, hk, rfl, HF, HB⟩ := hrel
        by_cases hlt : k < n
        · obtain ⟨_, _, ax, ay, ac, ad, e, hq, p0, p1, _, _⟩ := (HA.out.below (below_tr HB.out HB0.out)).q4 hlt
          cases e
          have hab := HAR.out _ (List.mem_of_getElem? hq.out)
          obtain ⟨⟨x0, x1⟩, ⟨y0, y1⟩, ⟨c0, c1⟩, ⟨d0, d1⟩⟩ := arcB_iff.1 hab
          obtain ⟨yn, rfl⟩ : ∃ yn : Nat, ay = yn := ⟨ay.toNat, by omega⟩
          have hy12 : yn < 12 := by omega
          have HG := hd (goF_res l z x r' y' S (sumQ z qz) k ⟨ax, yn, ac, ad⟩)
          have HSK := hd (fun (h : goF l z x r' y' S (sumQ z qz) k ⟨ax, yn, ac, ad⟩ = none) => show ∀ j a, j < k + 1 → l[j]? = some a → goF l z x r' y' S (sumQ z qz) j a = none from fun j a hj ha => by
            rcases Nat.lt_or_ge j k with h4 | h4
            · exact HF.out j a h4 ha
            · obtain rfl : j = k := by omega
              rw [hq.out] at ha
              cases ha
              exact h)
          have HFND := hd (fun (p : List Nat) (hx : goF l z x r' y' S (sumQ z qz) k ⟨ax, yn, ac, ad⟩ = some p) => show goR l z x (r' + 1) y' S (sumQ z qz) = some p from firstF_at (m := k) (a := ⟨ax, yn, ac, ad⟩) (fun j a hj ha => by rw [Nat.zero_add]; exact HF.out j a hj ha) hq.out (by rw [Nat.zero_add]; exact hx))
          have HQ := hd hq.out
          have k2 : (k : Int) < (n : Int) := by omega
          have b1' := i64_bit S yn (by omega) (by omega)
          have b2' := i64_bit' S yn (by omega) (by omega)
          have hmin : min yn 64 = yn := by omega
          clear hab hq
          by_cases h1 : ax = y'
          · subst h1
            by_cases h2 : (yn : Int) < x
            · have E := hd (HSK.out (by rw [HG.out, if_pos (.inr (.inl h2))]))
              clear b1' b2'
              go_wp2
              go_roundw
              case rel => exact ⟨k + 1, by omega, by go_num, E, HB⟩
              case measure => simp [intOf]; omega
            · by_cases h3 : (yn : Int) ≠ x ∧ S.testBit yn = true
              · have E := hd (HSK.out (by rw [HG.out, if_pos (.inr (.inr ⟨h3.1, by rw [Int.toNat_natCast]; exact h3.2⟩))]))
                have h3a : ¬ (yn : Int) = x := h3.1
                have h3b : ((yn : Int) == x) = false := by simp [h3a]
                rw [h3.2] at b1' b2'
                clear h3
                go_wp2
                all_goals
                  go_roundw
                  case rel => exact ⟨k + 1, by omega, by go_num, E, HB⟩
                  case measure => simp [intOf]; omega
              · have IHr := hd (IH.out r' rfl)
                have HG2 := hd (show goF l z x r' ax S (sumQ z qz) k ⟨ax, yn, ac, ad⟩ = (resF l z x r' yn (S ||| 2 ^ yn) (sumQ z (qz ++ [⟨ax, yn, ac, ad⟩]))).map (k :: ·) by
                  rw [HG.out, if_neg (by rintro (h | h | h); exact h rfl; exact h2 h; exact h3 ⟨h.1, by have := h.2; rwa [Int.toNat_natCast] at this⟩), Int.toNat_natCast, sumQ_app]
                  simp only [sumQ, Int.add_zero])
                have HP2 := hd (path_snoc HPath.out HQ.out rfl)
                have hsh : (2 : Int) ^ yn ≤ 2048 := by
                  have h1 : 2 ^ yn ≤ 2 ^ 11 := Nat.pow_le_pow_right (by omega) (by omega)
                  have e : ((2 ^ yn : Nat) : Int) = (2 : Int) ^ yn := by push_cast; rfl
                  omega
                have hsp : (0 : Int) < (2 : Int) ^ yn := Int.pow_pos (by decide)
                go_upto_region 12 with fail
                go_cut [105] from 73 to 105 (fun cc wx => cc = .bool false ∧ wx = wr)
                case first =>
                  by_cases h4 : (yn : Int) = x
                  · subst h4
                    go_wp2
                    go_meet
                    exact ⟨rfl, rfl⟩
                  · have hb0 : S.testBit yn = false := by rw [Bool.eq_false_iff]; exact fun hb => h3 ⟨h4, hb⟩
                    have h4b : ((yn : Int) == x) = false := by simp [h4]
                    rw [hb0] at b1' b2'
                    clear h3 hb0
                    go_wp2
                    go_meet
                    exact ⟨rfl, rfl⟩
                case rest =>
                obtain ⟨rfl, hw⟩ := hcut
                replace hw := hw.symm; subst hw
                clear b1' b2' h3
                go_upto_region 13 with fail
                have hor : bits .or .i64 (S : Int) (IntKind.i64.wrap (2 ^ yn)) = ((S ||| 2 ^ yn : Nat) : Int) := by
                  have h := i64_or S (2 ^ yn) (by omega) (Nat.pow_lt_pow_right (by omega) (by omega))
                  push_cast at h
                  rw [IntWalk.i64_in _ (by omega)]
                  exact h
                have hS2 : S ||| 2 ^ yn < 4096 := Nat.or_lt_two_pow (n := 12) hS (Nat.pow_lt_pow_right (by omega) hy12)
                have HS2 := hd hS2
                have hw1 : 1 ≤ way.length := hl1
                have hl12 : way.length ≤ 1048576 := by have := HLEN.out; omega
                have HRI := hd (show Rd w 1 (some ⟨bu, ou, none⟩) way.length ((way.map fun i : Nat => (i : Int)).map vi) from by rw [List.map_map]; exact HR.out)
                obtain ⟨vs, hvs⟩ : ∃ vs, vs = way.map fun i : Nat => (i : Int) := ⟨_, rfl⟩
                rw [← hvs] at HRI
                have HVS := hd hvs
                have HVW := hd (show vs.map vi ++ [.int .i64 (k : Int)] = (way ++ [k]).map (fun i : Nat => vi (i : Int)) by rw [hvs, List.map_map, List.map_append]; rfl)
                clear hvs
                have HBD := hd (show w0.heap.size ≤ w.heap.size from HB0.out.size)
                have hst := keep_start p1 HB.out
                have HBB := hd (show bb < w.heap.size by
                  obtain ⟨_, _, _, _, _, _, e, _, c0, _⟩ := (HA.out.below HB0.out).q4 hlt
                  cases e
                  exact block_lt_of_cell c0)
                have HCALL := hd (fun (uc : Value) (wc : World) (hb : Below w.heap.size w wc) (ho : wc.ownsRow w0.heap.size 2 1 uc (way.length + 1) (vs.map vi ++ [.int .i64 (k : Int)])) => IHr.out (yn : Int) (S ||| 2 ^ yn) (way ++ [k]) (qz ++ [⟨ax, yn, ac, ad⟩]) uc wc (by have := HLEN.out; rw [List.length_append, List.length_singleton]; omega) (by rw [List.length_append]; omega) HS2.out (hd (below_tr hb HB0.out)) HP2 (hd (by rw [List.length_append, List.length_singleton, ← HVW.out]; exact ho)))
                cases hgr : resF l z x r' yn (S ||| 2 ^ yn) (sumQ z (qz ++ [⟨ax, yn, ac, ad⟩])) with
                | none =>
                  have E := hd (HSK.out (by rw [HG2.out, hgr]; rfl))
                  have HC := hd (fun (uc : Value) (wc : World) (hb : Below w.heap.size w wc) (ho : wc.ownsRow w0.heap.size 2 1 uc (way.length + 1) (vs.map vi ++ [.int .i64 (k : Int)])) => ((HCALL.out uc wc hb ho).mono (fun e w'' hp => by
                    obtain ⟨hb2, ⟨_, x, rfl⟩ | ⟨p, x, hp, _⟩⟩ := hp
                    · exact ⟨hb2, x, rfl⟩
                    · rw [← HZ.out, hgr] at hp; cases hp) : Calls Try.prog 41 _ wc (fun e w'' => Below wc.heap.size wc w'' ∧ ∃ x, e = .returned (.tuple #[x, .bool false]))))
                  clear hgr HCALL HFND p1 p0
                  go_region_held3 (fun w' => w'.cell? ⟨bb, off + k * 4 + 1, none⟩ = some (.int .i64 yn) ∧ Below w.heap.size w w')
                    (repeat (first | assumption | refine keep_dr ?_ | refine keep_al ?_))
                    (first
                      | (refine step_app_list rfl _ _ rfl _ rfl bu ou way.length cu vs rfl (HRI.out.below ((‹_ ∧ Below w.heap.size w _›).2)) hw1 hl12 ?_; intro v6 w6 ho6 hb6; have hk6 := keep_to hb6 ‹_ ∧ Below w.heap.size w _›; obtain ⟨g6, c6, rfl⟩ := own_form hw1 ho6; have HO6 := hd (own_mono ho6 (Nat.le_trans HBD.out (‹_ ∧ Below w.heap.size w _›).2.size)); have HB6 := hd hb6; have HG6 := hd (Nat.le_trans (‹_ ∧ Below w.heap.size w _›).2.size (own_row ho6 (Nat.le_refl _) g6 rfl)); clear ho6 hb6)
                      | (refine step_app_int rfl _ _ rfl w0.heap.size g6 way.length c6 (vs.map vi) rfl (by first | exact own_below HO6.out (Below.refl _ _) | exact own_below HO6.out (drew_below (Below.refl _ _)) | exact own_below HO6.out ((Below.refl _ _).alloc (Nat.le_refl _) _) | exact own_below HO6.out (drew_below ((Below.refl _ _).alloc (Nat.le_refl _) _))) _ (.int .i64 (k : Int)) rfl (by first | exact (World.cell?_alloc_new ..).trans rfl | exact below_at HB6.out (cellA _ _ _ _) | exact below_at HB6.out (cellA' _ _ _ _) | exact below_at HB6.out (cellB _ _ _ _)) rfl hl12 (Nat.le_trans HBD.out (‹_ ∧ Below w.heap.size w _›).2.size) ?_; intro v7 w7 ho7 hg7 hc7; have hk7 := keep_row hg7 HG6.out HBB.out ‹_ ∧ Below w.heap.size w _›; have HO7 := hd ho7; clear ho7 hg7 hc7)
                      | (go_at_call 41; refine (HC.out _ _ (‹_ ∧ Below w.heap.size w _›).2 (by first | exact own_below HO7.out (Below.refl _ _) | exact own_below HO7.out (drew_below (Below.refl _ _)))).mono ?_; rintro e w9 ⟨hb9, x9, rfl⟩; have hk9 := keep_to hb9 ‹_ ∧ Below w.heap.size w _›))
                  all_goals
                    have HB9 := hd hk9.2
                    clear hk9
                    go_wp2
                    go_roundw
                    case rel => exact ⟨k + 1, by omega, by go_num, E, HB9⟩
                    case measure => simp [intOf]; omega
                | some p =>
                  have E := hd (HFND.out (k :: p) (by rw [HG2.out, hgr]; rfl))
                  have HC := hd (fun (uc : Value) (wc : World) (hb : Below w.heap.size w wc) (ho : wc.ownsRow w0.heap.size 2 1 uc (way.length + 1) (vs.map vi ++ [.int .i64 (k : Int)])) => ((HCALL.out uc wc hb ho).mono (fun e w'' hp => by
                    obtain ⟨hb2, ⟨hp, _⟩ | ⟨p', x, hp, he, ho'⟩⟩ := hp
                    · rw [← HZ.out, hgr] at hp; cases hp
                    · rw [← HZ.out, hgr] at hp; cases hp
                      exact ⟨hb2, x, he, ho'⟩) : Calls Try.prog 41 _ wc (fun e w'' => Below wc.heap.size wc w'' ∧ ∃ x, e = .returned (.tuple #[x, .bool true]) ∧ w''.ownsRow w0.heap.size 2 1 x (way ++ [k] ++ p).length ((way ++ [k] ++ p).map fun i : Nat => vi (i : Int)))))
                  clear hgr HCALL HSK p1 p0
                  go_region_held3 (fun w' => w'.cell? ⟨bb, off + k * 4 + 1, none⟩ = some (.int .i64 yn) ∧ Below w.heap.size w w')
                    (repeat (first | assumption | refine keep_dr ?_ | refine keep_al ?_))
                    (first
                      | (refine step_app_list rfl _ _ rfl _ rfl bu ou way.length cu vs rfl (HRI.out.below ((‹_ ∧ Below w.heap.size w _›).2)) hw1 hl12 ?_; intro v6 w6 ho6 hb6; have hk6 := keep_to hb6 ‹_ ∧ Below w.heap.size w _›; obtain ⟨g6, c6, rfl⟩ := own_form hw1 ho6; have HO6 := hd (own_mono ho6 (Nat.le_trans HBD.out (‹_ ∧ Below w.heap.size w _›).2.size)); have HB6 := hd hb6; have HG6 := hd (Nat.le_trans (‹_ ∧ Below w.heap.size w _›).2.size (own_row ho6 (Nat.le_refl _) g6 rfl)); clear ho6 hb6)
                      | (refine step_app_int rfl _ _ rfl w0.heap.size g6 way.length c6 (vs.map vi) rfl (by first | exact own_below HO6.out (Below.refl _ _) | exact own_below HO6.out (drew_below (Below.refl _ _)) | exact own_below HO6.out ((Below.refl _ _).alloc (Nat.le_refl _) _) | exact own_below HO6.out (drew_below ((Below.refl _ _).alloc (Nat.le_refl _) _))) _ (.int .i64 (k : Int)) rfl (by first | exact (World.cell?_alloc_new ..).trans rfl | exact below_at HB6.out (cellA _ _ _ _) | exact below_at HB6.out (cellA' _ _ _ _) | exact below_at HB6.out (cellB _ _ _ _)) rfl hl12 (Nat.le_trans HBD.out (‹_ ∧ Below w.heap.size w _›).2.size) ?_; intro v7 w7 ho7 hg7 hc7; have hk7 := keep_row hg7 HG6.out HBB.out ‹_ ∧ Below w.heap.size w _›; have HO7 := hd ho7; clear ho7 hg7 hc7)
                      | (go_at_call 41; refine (HC.out _ _ (‹_ ∧ Below w.heap.size w _›).2 (by first | exact own_below HO7.out (Below.refl _ _) | exact own_below HO7.out (drew_below (Below.refl _ _)))).mono ?_; rintro e w9 ⟨hb9, x9, rfl, ho9⟩; have HO9 := hd ho9; clear ho9; have hk9 := keep_to hb9 ‹_ ∧ Below w.heap.size w _›))
                  all_goals
                    have HB9 := hd hk9.2
                    clear hk9
                    go_wp2
                    go_ret2
                    have ho := HO9.out
                    rw [List.append_assoc] at ho
                    exact ⟨HB9.out, .inr ⟨k :: p, _, by rw [← HZ.out, HRG.out]; exact E.out, rfl, ho⟩⟩
          · have E := hd (HSK.out (by rw [HG.out, if_pos (.inl h1)]))
            have h1b : (ax == y') = false := by simp [h1]
            clear b1' b2'
            go_wp2
            go_roundw
            case rel => exact ⟨k + 1, by omega, by go_num, E, HB⟩
            case measure => simp [intOf]; omega
        · have e : k = n := by omega
          subst e
          have E := hd (show goR l z x (r' + 1) y' S (sumQ z qz) = none from firstF_all (fun j a ha => by rw [Nat.zero_add]; exact HF.out j a (by have := (List.getElem?_eq_some_iff.1 ha).1; have := HL.out; omega) ha))
          go_wp2
          go_ret2
          exact ⟨HB.out, .inl ⟨by rw [← HZ.out, HRG.out]; exact E.out, _, rfl⟩⟩
end Go.Proofs.Ytclkgfcehmmgaaa
