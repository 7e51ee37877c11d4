/- Batches of the program: a contract. -/
import Derived.Test.YtkdjeneogclocaaBatA
import Derived.Test.YtkdjeneogclocaaStepApA
import Derived.Test.YtkdjeneogclocaaStoreBox
import Derived.Test.YtkdjeneogclocaaProN
import Derived.Test.YtkdjeneogclocaaJobO
import Derived.Test.YtkdjeneogclocaaChgB
import Derived.Test.YtkdjeneogclocaaTabM
import Derived.StillTailTactics
import Derived.Deep.CutRange
namespace Go.Proofs.Ytkdjeneogclocaa
open Go.RowKit Plain
set_option linter.unusedVariables false
set_option linter.unusedSimpArgs false
attribute [local go_sem ↓] Go.wp_at_zero Go.wp_at_succ
def tmS (l : List Q4) (k : Nat) : Int := sumN (fun i => (jobAt l i).a) k
def wtS (l : List Q4) (k : Nat) : Int := sumN (fun i => (jobAt l i).d) k
def preL (f : Nat → Int) (k : Nat) : List Int := (List.range (k + 1)).map f
theorem preL_len (f : Nat → Int) (k : Nat) : (preL f k).length = k + 1 := by simp [preL]
theorem preL_succ (f : Nat → Int) (k : Nat) : preL f (k + 1) = preL f k ++ [f (k + 1)] := by rw [preL, List.range_succ, List.map_append]; rfl
theorem preL_at (f : Nat → Int) {k j : Nat} (h : j ≤ k) : (preL f k).getD j 0 = f j := by
  rw [preL, List.getD_eq_getElem?_getD, List.getElem?_map, List.getElem?_range (by omega)]; rfl
theorem jobD_at {l : List Q4} (h : ∀ q ∈ l, jobD q) {i : Nat} (hi : i < l.length) : jobD (jobAt l i) := by
  rw [jobAt, List.getD_eq_getElem?_getD, List.getElem?_eq_getElem hi]
  exact h _ (List.getElem_mem hi)
theorem tw_bd {l : List Q4} (h : ∀ q ∈ l, jobD q) : ∀ k, k ≤ l.length → 0 ≤ tmS l k ∧ tmS l k ≤ 9 * k ∧ 0 ≤ wtS l k ∧ wtS l k ≤ 5 * k
  | 0, _ => by simp [tmS, wtS, sumN]
  | k + 1, hk => by
    have h1 := tw_bd h k (by omega)
    obtain ⟨⟨a0, a1⟩, _, _, d0, d1⟩ := jobD_at h (i := k) (by omega)
    rw [tmS, wtS, sumN, sumN]
    rw [tmS, wtS] at h1
    push_cast
    omega
theorem wt_up {l : List Q4} (h : ∀ q ∈ l, jobD q) (j : Nat) : ∀ m, j + m ≤ l.length → wtS l j ≤ wtS l (j + m) := by
  intro m
  induction m with
  | zero => intro _; exact Int.le_refl _
  | succ m ih =>
    intro hm
    have h2 := ih (by omega)
    obtain ⟨_, _, _, d0, _⟩ := jobD_at h (i := j + m) (by omega)
    have e : wtS l (j + (m + 1)) = wtS l (j + m) + (jobAt l (j + m)).d := rfl
    omega
theorem tw_ok {l : List Q4} (h : ∀ q ∈ l, jobD q) {n : Nat} (hl : l.length = n) (n6 : n ≤ 6) : TWok (tmS l) (wtS l) n :=
  ⟨fun k hk => by have := tw_bd h k (by omega); omega, fun j k h1 h2 => by have := wt_up h j (k - j) (by omega); rwa [show j + (k - j) = k by omega] at this, fun k hk => by have := tw_bd h k (by omega); omega⟩
/-- what the store of the better one of two leaves -/
def PickPost (Y : World) (mk : Bool → Int → Option Addr → Nat → Nat → Act) (r o : Nat) (x y : BCell) (a b : Value) : Exit → Act → World → Prop
  | .normal, a', w' => ∃ (Y2 : World) (t : Bool) (c : Int) (A : Option Addr) (n cap : Nat), a' = mk t c A n cap ∧ w' = ((Y2.setCell ⟨r, o, none⟩ (.bool t)).setCell ⟨r, o + 1, none⟩ (.int .i64 c)).setCell ⟨r, o + 2, none⟩ (.slice A n cap) ∧ Below Y.heap.size Y Y2 ∧ (.agg #[.bool t, .int .i64 c, .slice A n cap] = a ∧ PickA x y ∨ .agg #[.bool t, .int .i64 c, .slice A n cap] = b ∧ PickB x y)
  | _, _, _ => False
theorem PickPost.imp {Y : World} {mk : Bool → Int → Option Addr → Nat → Nat → Act} {r o : Nat} {x y : BCell} {a b : Value} {Q : Exit → Act → World → Prop}
    (h : ∀ (Y2 : World) (t : Bool) (c : Int) (A : Option Addr) (n cap : Nat), Below Y.heap.size Y Y2 → (.agg #[.bool t, .int .i64 c, .slice A n cap] = a ∧ PickA x y ∨ .agg #[.bool t, .int .i64 c, .slice A n cap] = b ∧ PickB x y) →
      Q .normal (mk t c A n cap) (((Y2.setCell ⟨r, o, none⟩ (.bool t)).setCell ⟨r, o + 1, none⟩ (.int .i64 c)).setCell ⟨r, o + 2, none⟩ (.slice A n cap))) :
    ∀ (e : Exit) (a' : Act) (w' : World), PickPost Y mk r o x y a b e a' w' → Q e a' w' := by
  intro e a' w' hp
  cases e
  all_goals first
    | exact False.elim hp
    | (obtain ⟨Y2, t, c, A, n, cap, rfl, rfl, h1, h2⟩ := hp; exact h Y2 t c A n cap h1 h2)
/-- what the call gives -/
def BatOut (l : List Q4) (ch : Int) (m n : Nat) (w : World) (r : Ending) (w' : World) : Prop :=
  ∃ (c : Int) (s : List Nat) (u : Value), r = .returned (.tuple #[u, .int .i64 c, .bool true]) ∧ BPlan (tmS l) (wtS l) ch m n c s ∧ w'.ownsRow w.heap.size 2 1 u s.length ((nl s).reverse.map vi) ∧ Below w.heap.size w w'
set_option maxHeartbeats 4000000 in
set_option maxRecDepth 100000 in
theorem BatchPlan_any (V : Value) (l : List Q4) (n : Nat) (w : World) (h : JobsAt w V l n) (hf : freeL l n) (hq : ∀ q ∈ l, jobD q) (n6 : n ≤ 6) (ch : Int) (c0 : 0 ≤ ch) (c1 : ch ≤ 10) (m : Nat) (m1 : 1 ≤ m) (m6 : m ≤ 6) :
    Calls Try.prog 12 #[V, .int .i64 ch, .int .i64 m] w (BatOut l ch m n w) := by
  have AO := hd (areAtOnce_any V l n w h hf)
  have n1 := h.n1
  have TW := hd (tw_ok hq h.len n6)
  have BD := hd (fun k (hk : k ≤ n) => tw_bd hq k (by rw [h.len]; exact hk))
  obtain ⟨A, cap, rfl, hcap, hr⟩ := h.sl
  have HR := hd hr
  have g1 : inR ch 0 10000 = true := inR_iff.2 ⟨c0, by omega⟩
  have g2 : inR (m : Int) 1 24 = true := inR_iff.2 ⟨by omega, by omega⟩
  have TS := hd (fun k => (show tmS l (k + 1) = tmS l k + (jobAt l k).a from rfl))
  have WS := hd (fun k => (show wtS l (k + 1) = wtS l k + (jobAt l k).d from rfl))
  have T0 := hd (show preL (tmS l) 0 = [0] from rfl)
  have W0 := hd (show preL (wtS l) 0 = [0] from rfl)
  have PT := hd (fun k => preL_succ (tmS l) k)
  have PW := hd (fun k => preL_succ (wtS l) k)
  have QT := hd (fun k j (h : j ≤ k) => preL_at (tmS l) h)
  have QW := hd (fun k j (h : j ≤ k) => preL_at (wtS l) h)
  clear h hr hq hf
  obtain ⟨T, hT⟩ : ∃ T, T = tmS l := ⟨_, rfl⟩
  obtain ⟨W, hW⟩ : ∃ W, W = wtS l := ⟨_, rfl⟩
  rw [← hT] at TW BD TS T0 PT QT
  rw [← hW] at TW BD WS W0 PW QW
  have HTT := hd hT
  have HWW := hd hW
  clear hT hW
  go_enter Try.func12, Try.ntmps12
  go_wp2_with (first
    | (go_at_call 20; refine AO.out.mono ?_; rintro e w1 ⟨rfl, hb1⟩)
    | (go_at_call 17; refine (within_t _ _ _ _ (by first | exact g1 | exact g2)).mono ?_; rintro e w' ⟨rfl, hw⟩; replace hw := hw.symm; subst hw))
  have HB1 := hd hb1
  have ht0 := (World.ownsRow_lit (base := w1.heap.size) (e := 2) (size := 1) w1 #[.int .i64 0] 1 (Nat.le_refl _) (by unfold maxLen; omega) rfl).alloc (.cells #[.int .i64 0] 2)
  have hw0 := World.ownsRow_lit (base := w1.heap.size) (e := 2) (size := 1) (w1.alloc (.cells #[.int .i64 0] 2)) #[.int .i64 0] 1 (by simp) (by unfold maxLen; omega) rfl
  rw [show (w1.alloc (.cells #[.int .i64 0] 2)).heap.size = w1.heap.size + 1 by simp] at hw0
  have HT0 := hd ht0
  have HW0 := hd hw0
  have HB0 := hd (((Below.refl _ w1).alloc (Nat.le_refl _) (.cells #[.int .i64 0] 2)).alloc (by simp) (.cells #[.int .i64 0] 2))
  clear ht0 hw0 hb1 AO g1 g2
  obtain ⟨g0, hg0⟩ : ∃ g0, g0 = w1.heap.size := ⟨_, rfl⟩
  have HG0 := hd hg0
  go_loopw [10, 11, 44] (fun tv wv iv wr => ∃ (k gt ct gw cw : Nat), k ≤ n ∧ iv = .int .i64 k ∧ tv = .slice (some ⟨gt, 0, none⟩) (k + 1) ct ∧ wv = .slice (some ⟨gw, 0, none⟩) (k + 1) cw ∧ gt ≠ gw ∧ Hid (wr.ownsRow g0 2 1 (.slice (some ⟨gt, 0, none⟩) (k + 1) ct) (k + 1) ((preL T k).map vi)) ∧ Hid (wr.ownsRow g0 2 1 (.slice (some ⟨gw, 0, none⟩) (k + 1) cw) (k + 1) ((preL W k).map vi)) ∧ Hid (Below w1.heap.size w1 wr)) (fun _ _ iv _ => n - (intOf iv).toNat)
  case atStart => exact ⟨0, w1.heap.size, 1, w1.heap.size + 1, 1, by omega, rfl, rfl, rfl, by omega, hd (by rw [T0.out, hg0]; exact HT0.out), hd (by rw [W0.out, hg0]; exact HW0.out), HB0⟩
  case round =>
    clear HT0 HW0 HB0 hg0
    obtain ⟨k, gt, ct, gw, cw, hk, rfl, rfl, rfl, hgg, HOT, HOW, HB⟩ := hrel
    by_cases hlt : k < n
    · obtain ⟨b, off, qa, qb, qc, qd, rfl, hq, c0', c1', c2, c3⟩ := (HR.out.below (below_tr HB.out HB1.out)).q4 hlt
      have k2 : (k : Int) < (n : Int) := Int.ofNat_lt.2 hlt
      have HAT := hd (jobAt_at hq.out)
      have ts := TS.out k
      have ws := WS.out k
      rw [HAT.out] at ts ws
      simp only at ts ws
      have HTk := hd ts
      have HWk := hd ws
      have b0 := BD.out k (by omega)
      have b1 := BD.out (k + 1) (by omega)
      rw [ts, ws] at b1
      have fT := PT.out k
      have fW := PW.out k
      rw [ts] at fT
      rw [ws] at fW
      have FT := hd fT
      have FW := hd fW
      have lt1 := (World.ownsRow.lt HOT.out _ rfl)
      have lt2 := (World.ownsRow.lt HOW.out _ rfl)
      simp only at lt1 lt2
      have hg0w : g0 ≤ wr.heap.size := by rw [HG0.out]; exact HB.out.size
      go_upto_region 8 with fail
      have cT := HOT.out.cellAt k (by omega)
      have cW := HOW.out.cellAt k (by omega)
      have e1 : ((preL T k).map vi)[k]? = some (.int .i64 (T k)) := by
        have := QT.out k k (Nat.le_refl _)
        rw [List.getD_eq_getElem?_getD, List.getElem?_eq_getElem (by rw [preL_len]; omega)] at this
        rw [List.getElem?_map, List.getElem?_eq_getElem (by rw [preL_len]; omega)]
        simp only [Option.getD_some] at this
        rw [Option.map_some, this]
        rfl
      have e2 : ((preL W k).map vi)[k]? = some (.int .i64 (W k)) := by
        have := QW.out k k (Nat.le_refl _)
        rw [List.getD_eq_getElem?_getD, List.getElem?_eq_getElem (by rw [preL_len]; omega)] at this
        rw [List.getElem?_map, List.getElem?_eq_getElem (by rw [preL_len]; omega)]
        simp only [Option.getD_some] at this
        rw [Option.map_some, this]
        rfl
      rw [e1] at cT
      rw [e2] at cW
      have hBX := (Below.refl _ wr).alloc (Nat.le_refl _) (.cells #[.int .i64 qa, .int .i64 qb, .int .i64 qc, .int .i64 qd] 37)
      have cTX := below_at hBX cT
      have cWX := below_at hBX cW
      have HTX := hd (HOT.out.alloc (.cells #[.int .i64 qa, .int .i64 qb, .int .i64 qc, .int .i64 qd] 37))
      have HWX := hd (HOW.out.alloc (.cells #[.int .i64 qa, .int .i64 qb, .int .i64 qc, .int .i64 qd] 37))
      have HBX := hd (HB.out.alloc HB.out.size (.cells #[.int .i64 qa, .int .i64 qb, .int .i64 qc, .int .i64 qd] 37))
      have k0 : (wr.alloc (.cells #[.int .i64 qa, .int .i64 qb, .int .i64 qc, .int .i64 qd] 37)).cell? ⟨wr.heap.size, 0, none⟩ = some (.int .i64 qa) := (World.cell?_alloc_new ..).trans rfl
      have k3 : (wr.alloc (.cells #[.int .i64 qa, .int .i64 qb, .int .i64 qc, .int .i64 qd] 37)).cell? ⟨wr.heap.size, 3, none⟩ = some (.int .i64 qd) := (World.cell?_alloc_new ..).trans rfl
      have hXs : (wr.alloc (.cells #[.int .i64 qa, .int .i64 qb, .int .i64 qc, .int .i64 qd] 37)).heap.size = wr.heap.size + 1 := by simp
      clear c0' c1' c2 c3 cT cW e1 e2 HOT HOW HB hBX hq fT fW
      generalize World.alloc wr (.cells #[.int .i64 qa, .int .i64 qb, .int .i64 qc, .int .i64 qd] 37) = X at *
      generalize wr.heap.size = G at *
      obtain ⟨x, hx⟩ : ∃ x, x = T k := ⟨_, rfl⟩
      obtain ⟨y, hy⟩ : ∃ y, y = W k := ⟨_, rfl⟩
      rw [← hx] at FT HTk cTX b0 b1
      rw [← hy] at FW HWk cWX b0 b1
      clear hx hy ts ws
      have w9 : IntKind.i64.wrap (x + qa) = x + qa := IntWalk.i64_in _ (by omega)
      have w8 : IntKind.i64.wrap (y + qd) = y + qd := IntWalk.i64_in _ (by omega)
      clear b0 b1
      have k3i : (k : Int) < (k : Int) + 1 := by omega
      have CTX := hd cTX
      have K0 := hd k0
      have CWX := hd cWX
      have K3 := hd k3
      clear cWX k3
      have HCN := hd (show (X.alloc (.cells #[.int .i64 (x + qa)] 2)).drew.cell? ⟨G + 1, 0, none⟩ = some (.int .i64 (x + qa)) by
        have := World.cell?_alloc_new X #[.int .i64 (x + qa)] 2 0
        rw [hXs] at this
        exact this)
      go_region_held3 (fun w' => w'.cell? ⟨gt, k, none⟩ = some (.int .i64 x) ∧ w'.cell? ⟨G, 0, none⟩ = some (.int .i64 qa))
        (first | go_keep | exact hkk)
        (first | (refine step_app_intA rfl _ _ rfl g0 gt (k + 1) ct ((preL T k).map vi) rfl ((show (World.drew X).ownsRow g0 2 1 (.slice (some ⟨gt, 0, none⟩) (k + 1) ct) (k + 1) ((preL T k).map vi) from HTX.out).alloc _) _ (.int .i64 (x + qa)) rfl HCN.out rfl (by omega) (by simp; omega) ?_; intro v' w' k1 k2 k3 k4; have hkk : w'.cell? ⟨gt, k, none⟩ = some (.int .i64 x) ∧ w'.cell? ⟨G, 0, none⟩ = some (.int .i64 qa) := ⟨k3 k _ (by omega) (below_at ((Below.refl _ (World.drew X)).alloc (Nat.le_refl _) _) CTX.out), k2.cell (below_at ((Below.refl _ (World.drew X)).alloc (Nat.le_refl _) _) K0.out) (by simp; omega)⟩))
      have hBY := ((Below.refl _ X).alloc (Nat.le_refl _) (.cells #[.int .i64 (x + qa)] 2)).drew
      have HB8 := hd (below_row k2 ((HBX.out.alloc HBX.out.size (.cells #[.int .i64 (x + qa)] 2)).drew) (fun q e => by cases e; rw [← HG0.out]; exact lt1.1))
      have HT8 := hd (show w'.ownsRow g0 2 1 v' (k + 1 + 1) ((preL T (k + 1)).map vi) by rw [FT.out, List.map_append]; exact k1)
      have HW8 := hd (((HWX.out.alloc (.cells #[.int .i64 (x + qa)] 2)).drew).kept k2 (.inr (by simp only [Value.ownBlock, Option.map_some, ne_eq, Option.some.injEq]; exact fun e => hgg e.symm)))
      have cW8 := k2.cell (below_at hBY CWX.out) (by simp only [ne_eq, Option.some.injEq]; exact fun e => hgg e.symm)
      have k38 := k2.cell (below_at hBY K3.out) (by simp only [ne_eq, Option.some.injEq]; omega)
      obtain ⟨g', c', rfl, hg', hg'l⟩ := own_form HT8.out (by omega)
      have hgg' : g' ≠ gw := by
        have h1 := k4 g' rfl
        have h2 : X.heap.size ≤ ((X.alloc (.cells #[.int .i64 (x + qa)] 2)).drew).heap.size := hBY.size
        omega
      have hsz : G + 1 ≤ w'.heap.size := by
        have h1 := k2.size
        have h2 : X.heap.size ≤ ((X.alloc (.cells #[.int .i64 (x + qa)] 2)).drew).heap.size := hBY.size
        omega
      have CW8 := hd cW8
      have K38 := hd k38
      clear k1 k2 k3 k4 hkk HCN hBY CTX CWX K0 K3 HTX HWX HBX cTX k0 w9
      obtain ⟨Y, hY⟩ : ∃ Y, Y = w'.heap.size := ⟨_, rfl⟩
      have HY := hd hY
      rw [← hY] at hsz hg'l
      have HCN := hd (show (w'.alloc (.cells #[.int .i64 (y + qd)] 2)).drew.cell? ⟨Y, 0, none⟩ = some (.int .i64 (y + qd)) by
        have := World.cell?_alloc_new w' #[.int .i64 (y + qd)] 2 0
        rw [← hY] at this
        exact this)
      clear hY
      go_wp2_with fail
      have ew : w'.heap.size = Y := HY.out.symm
      go_region_held3 (fun w' => w'.cell? ⟨gw, k, none⟩ = some (.int .i64 y) ∧ w'.cell? ⟨G, 3, none⟩ = some (.int .i64 qd))
        (first | go_keep | exact hkk)
        (first | (refine step_app_intA rfl _ _ rfl g0 gw (k + 1) cw ((preL W k).map vi) rfl ((show (World.drew w').ownsRow g0 2 1 (.slice (some ⟨gw, 0, none⟩) (k + 1) cw) (k + 1) ((preL W k).map vi) from HW8.out).alloc _) Y (.int .i64 (y + qd)) (by first | rfl | rw [ew]) HCN.out rfl (by omega) (by simp; omega) ?_; intro v9 w9 k1 k2 k3 k4; have hkk : w9.cell? ⟨gw, k, none⟩ = some (.int .i64 y) ∧ w9.cell? ⟨G, 3, none⟩ = some (.int .i64 qd) := ⟨k3 k _ (by omega) (below_at ((Below.refl _ (World.drew w')).alloc (Nat.le_refl _) _) CW8.out), k2.cell (below_at ((Below.refl _ (World.drew w')).alloc (Nat.le_refl _) _) K38.out) (by simp; omega)⟩))
      have hBY := ((Below.refl _ w').alloc (Nat.le_refl _) (.cells #[.int .i64 (y + qd)] 2)).drew
      have HB9 := hd (below_row k2 ((HB8.out.alloc HB8.out.size (.cells #[.int .i64 (y + qd)] 2)).drew) (fun q e => by cases e; rw [← HG0.out]; exact lt2.1))
      have HW9 := hd (show w9.ownsRow g0 2 1 v9 (k + 1 + 1) ((preL W (k + 1)).map vi) by rw [FW.out, List.map_append]; exact k1)
      have HT9 := hd (((HT8.out.alloc (.cells #[.int .i64 (y + qd)] 2)).drew).kept k2 (.inr (by simp only [Value.ownBlock, Option.map_some, ne_eq, Option.some.injEq]; exact hgg')))
      obtain ⟨g9, c9, rfl, hg9, hg9l⟩ := own_form HW9.out (by omega)
      have hgg9 : g' ≠ g9 := by
        have h1 := k4 g9 rfl
        have h2 : w'.heap.size ≤ ((w'.alloc (.cells #[.int .i64 (y + qd)] 2)).drew).heap.size := hBY.size
        omega
      clear k1 k2 k3 k4 hkk HCN hBY HB8 HT8 HW8 cW8 k38
      go_wp2
      go_roundw
      case rel => exact ⟨k + 1, g', c', g9, c9, by omega, by go_num, by first | rfl | (push_cast; rfl) | simp, by first | rfl | (push_cast; rfl) | simp, hgg9, HT9, HW9, HB9⟩
      case measure => simp [intOf]; omega
    · obtain rfl : n = k := by omega
      have HBn := hd HB.out
      have lt1 := (World.ownsRow.lt HOT.out _ rfl)
      have lt2 := (World.ownsRow.lt HOW.out _ rfl)
      simp only at lt1 lt2
      have hn1w : IntKind.i64.wrap ((n : Int) + 1) = ((n + 1 : Nat) : Int) := by rw [IntWalk.i64_in _ (by omega)]; push_cast; rfl
      go_wp2_with (at_make; go_must (refine wpList_make_bats _ rfl _ rfl _ _ (n + 1) rfl (by simp) (by omega) ?_); intro w2 ho2 hb2)
      have HO2 := hd ho2
      have HB2 := hd hb2
      have HgT2 := hd (World.ownsRow.lt ho2 _ rfl).2
      clear ho2 hb2
      obtain ⟨wB, hwB⟩ : ∃ wB, wB = wr := ⟨_, rfl⟩
      subst hwB
      obtain ⟨gT, hgT⟩ : ∃ gT, gT = wB.heap.size := ⟨_, rfl⟩
      rw [← hgT] at HO2 HgT2 lt1 lt2 ⊢
      have HGT := hd hgT
      clear hgT
      go_loopw [75] (fun iv wr => ∃ (k : Nat) (rb : Nat → Nat) (us : List Value), k ≤ n + 1 ∧ iv = .int .i64 k ∧ Hid (wr.ownsRow gT 48 1 (.slice (some ⟨gT, 0, none⟩) (n + 1) (n + 1)) (n + 1) us) ∧ Hid (∀ i, i < k → us[i]? = some (.slice (some ⟨rb i, 0, none⟩) (n + 1) (n + 1))) ∧ Hid (∀ i j, i < k → j < k → rb i = rb j → i = j) ∧ Hid (∀ i, i < k → gT < rb i ∧ rb i < wr.heap.size) ∧ Hid (∀ i, i < k → wr.ownsRow gT 50 3 (.slice (some ⟨rb i, 0, none⟩) (n + 1) (n + 1)) (n + 1) (noneL (n + 1))) ∧ Hid (Below wB.heap.size wB wr) ∧ Hid (gT < wr.heap.size)) (fun iv _ => n + 1 - (intOf iv).toNat)
      case atStart => exact ⟨0, fun _ => 0, _, by omega, rfl, HO2, hd (fun i hi => by omega), hd (fun i j hi => by omega), hd (fun i hi => by omega), hd (fun i hi => by omega), HB2, HgT2⟩
      case round =>
        clear HO2 HB2 HgT2
        obtain ⟨k, rb, us, hk, rfl, HO2, HU, HI, HL, HRW, HB2, HgT2⟩ := hrel
        by_cases hlt : k < n + 1
        · have k2 : (k : Int) < ((n + 1 : Nat) : Int) := Int.ofNat_lt.2 hlt
          have k3 : (k : Int) < (n : Int) + 1 := by omega
          go_wp2_with (first
            | (at_make; go_must (refine wpList_make_bat _ rfl _ rfl _ _ (n + 1) rfl (by simp) (by omega) ?_); intro w5 ho5 hb5; have HO3 := hd (own_below HO2.out hb5))
            | ((with_reducible refine wpList_store_own _ gT 48 1 (n + 1) (n + 1) gT _ HO3.out size_bats k (.slice (some ⟨wr.heap.size, 0, none⟩) (n + 1) (n + 1)) ?_ ?_ ?_ ?_ ?_); exact rfl; exact rfl; exact rfl; omega; intro w6 ho6 hg6))
          have hlh : us.length = n + 1 := by have := HO2.out.1; omega
          have hgTs := HgT2.out
          have HO6 := hd ho6
          have HU6 := hd (show ∀ i, i < k + 1 → (us.set k (.slice (some ⟨wr.heap.size, 0, none⟩) (n + 1) (n + 1)))[i]? = some (.slice (some ⟨(if i = k then wr.heap.size else rb i), 0, none⟩) (n + 1) (n + 1)) from fun i hi => by
            rw [List.getElem?_set]
            by_cases he : i = k
            · subst he; rw [if_pos rfl, if_pos (by omega), if_pos rfl]
            · rw [if_neg (fun e => he e.symm), if_neg he]; exact HU.out i (by omega))
          have HI6 := hd (show ∀ i j, i < k + 1 → j < k + 1 → (if i = k then wr.heap.size else rb i) = (if j = k then wr.heap.size else rb j) → i = j from fun i j hi hj e => by
            by_cases h1 : i = k
            · by_cases h2 : j = k
              · omega
              · rw [if_pos h1, if_neg h2] at e
                have := HL.out j (by omega); omega
            · by_cases h2 : j = k
              · rw [if_neg h1, if_pos h2] at e
                have := HL.out i (by omega); omega
              · rw [if_neg h1, if_neg h2] at e
                exact HI.out i j (by omega) (by omega) e)
          have hlt5 := (World.ownsRow.lt ho5 _ rfl).2
          have hsz6 := hg6.size
          simp only at hlt5
          have hs5 := hb5.size
          have HL6 := hd (show ∀ i, i < k + 1 → gT < (if i = k then wr.heap.size else rb i) ∧ (if i = k then wr.heap.size else rb i) < w6.heap.size from fun i hi => by
            by_cases h1 : i = k
            · rw [if_pos h1]; omega
            · rw [if_neg h1]; have := HL.out i (by omega); omega)
          have HRW6 := hd (show ∀ i, i < k + 1 → w6.ownsRow gT 50 3 (.slice (some ⟨(if i = k then wr.heap.size else rb i), 0, none⟩) (n + 1) (n + 1)) (n + 1) (noneL (n + 1)) from fun i hi => by
            by_cases h1 : i = k
            · rw [if_pos h1]
              exact (own_mono ho5 (by omega)).kept hg6 (.inr (by simp only [Value.ownBlock, Option.map_some, ne_eq, Option.some.injEq]; omega))
            · rw [if_neg h1]
              have h2 := HL.out i (by omega)
              exact (own_below (HRW.out i (by omega)) hb5).kept hg6 (.inr (by simp only [Value.ownBlock, Option.map_some, ne_eq, Option.some.injEq]; omega)))
          have HB6 := hd (below_row hg6 (below_tr hb5 HB2.out) (fun q e => by cases e; rw [HGT.out]; exact Nat.le_refl _))
          have HgT6 := hd (show gT < w6.heap.size by omega)
          clear ho5 hb5 ho6 hg6 HO3 hlt5 hsz6 hs5 hgTs hlh
          go_roundw
          case rel => exact ⟨k + 1, (fun i => if i = k then wr.heap.size else rb i), _, by omega, by go_num, HO6, HU6, HI6, HL6, HRW6, HB6, HgT6⟩
          case measure => simp [intOf]; omega
        · obtain rfl : k = n + 1 := by omega
          rw [show ((n + 1 : Nat) : Int) = (n : Int) + 1 by push_cast; rfl]
          have tab0 : TabAt wr gT wr.heap.size n rb (fun _ => noneL (n + 1)) (fun _ _ => none) := ⟨fun k hk => by rw [HO2.out.cellAt k (by omega)]; exact HU.out k (by omega), fun i j h1 h2 => HI.out i j (by omega) (by omega), fun i h1 => HL.out i (by omega), fun k hk => HRW.out k (by omega), fun k hk b hb => by
            obtain ⟨h1, h2, h3⟩ := noneL_at (n := n + 1) (b := b) (by omega)
            exact ⟨_, _, _, h1, h2, h3, rfl⟩⟩
          have T00 := hd tab0
          have c00 := tab0.out 0 (by omega)
          have r00 := hd (tab0.row 0 (by omega))
          have HGG := hd (show gT < rb 0 from (tab0.lo 0 (by omega)).1)
          clear tab0 HO2 HU HI HL HRW
          obtain ⟨G, hG⟩ : ∃ G, G = wr.heap.size := ⟨_, rfl⟩
          rw [← hG] at T00
          have HG := hd hG
          clear hG
          have n2 : (0 : Int) < (n : Int) + 1 := by omega
          go_wp2_with ((with_reducible refine wpList_store_own _ gT 50 3 (n + 1) (n + 1) (rb 0) _ r00.out size_bool 0 (.bool true) ?_ ?_ ?_ ?_ ?_); exact rfl; exact rfl; exact rfl; omega; intro w7 ho7 hg7)
          have HTA := hd (T00.out.put (k := 0) (b := 0) (by omega) (by omega) (c := some (0, [])) (show CellV wr G (some (0, [])) (.agg #[.bool true, .int .i64 0, .slice none 0 0]) from ⟨.slice none 0 0, rfl, ⟨rfl, .inl ⟨rfl, rfl⟩⟩, by simp⟩) ho7 hg7 (fun j => by
            obtain ⟨h1, h2, h3⟩ := noneL_at (n := n + 1) (b := 0) (by omega)
            rw [List.getElem?_set]
            by_cases e0 : j = 0
            · subst e0; simp [noneL, madeCells]
            · rw [if_neg (fun e => e0 e.symm)]
              by_cases e1 : j = 1
              · subst e1; exact h2
              · by_cases e2 : j = 2
                · subst e2; exact h3
                · rw [if_neg (by omega), if_neg (by omega), if_neg (by omega)]))
          have HB7 := hd (below_row hg7 HB2.out (fun q e => by cases e; have := HGG.out; have := HGT.out; omega))
          have HG7 := hd (show G ≤ w7.heap.size by rw [HG.out]; exact hg7.size)
          have HF7 := hd (show ∀ k', k' < 1 → ∀ b, b ≤ n → Full T W ch m k' b (updM (fun _ _ => none) 0 0 (some (0, [])) k' b) from fun k' h1 b h2 => by
            obtain rfl : k' = 0 := by omega
            by_cases hb : b = 0
            · subst hb; rw [updM_same]; exact full_zero
            · rw [updM_other _ _ _ _ (fun e => hb e.2)]; exact full_off (.inr (by omega)))
          have HN7 := hd (show ∀ k', 1 ≤ k' → ∀ b, updM (fun _ _ => none) 0 0 (some (0, [])) k' b = none from fun k' h1 b => updM_other _ _ _ _ (fun e => by omega))
          clear T00 c00 r00 HB2 HgT2 ho7 hg7 HGG
          go_loopw [16] (fun iv wr => ∃ (k : Nat) (xs : Nat → List Value) (M : Nat → Nat → BCell), 1 ≤ k ∧ k ≤ n + 1 ∧ iv = .int .i64 k ∧ Hid (TabAt wr gT G n rb xs M) ∧ Hid (∀ k', k' < k → ∀ b, b ≤ n → Full T W ch m k' b (M k' b)) ∧ Hid (∀ k', k ≤ k' → ∀ b, M k' b = none) ∧ Hid (Below wB.heap.size wB wr) ∧ Hid (G ≤ wr.heap.size)) (fun iv _ => n + 1 - (intOf iv).toNat)
          case atStart => exact ⟨1, _, _, by omega, by omega, rfl, HTA, HF7, HN7, HB7, HG7⟩
          case round =>
            clear HTA HF7 HN7 HB7 HG7 HG
            obtain ⟨k, xs, M, hk1, hk, rfl, HTA, HF, HN, HB7, HG7⟩ := hrel
            by_cases hkn : k ≤ n
            · have k2 : (k : Int) ≤ (n : Int) := Int.ofNat_le.2 hkn
              go_wp2
              have HF4 := hd (show ∀ b', b' < 1 → Full T W ch m k b' (M k b') from fun b' h1 => by
                obtain rfl : b' = 0 := by omega
                rw [HN.out k (Nat.le_refl _) 0]
                exact full_off (.inl ⟨rfl, hk1⟩))
              go_loopw [17] (fun iv wr => ∃ (b : Nat) (xs : Nat → List Value) (M : Nat → Nat → BCell), 1 ≤ b ∧ b ≤ k + 1 ∧ iv = .int .i64 b ∧ Hid (TabAt wr gT G n rb xs M) ∧ Hid (∀ k', k' < k → ∀ b, b ≤ n → Full T W ch m k' b (M k' b)) ∧ Hid (∀ k', k < k' → ∀ b, M k' b = none) ∧ Hid (∀ b', b' < b → Full T W ch m k b' (M k b')) ∧ Hid (∀ b', b ≤ b' → M k b' = none) ∧ Hid (Below wB.heap.size wB wr) ∧ Hid (G ≤ wr.heap.size)) (fun iv _ => k + 1 - (intOf iv).toNat)
              case atStart => exact ⟨1, xs, M, by omega, by omega, rfl, HTA, HF, hd (fun k' h1 => HN.out k' (by omega)), HF4, hd (fun b' _ => HN.out k (Nat.le_refl _) b'), HB7, HG7⟩
              case round =>
                clear HTA HF HN HB7 HG7 HF4
                obtain ⟨b, xs, M, hb1, hbk, rfl, HTA, HF, HN, HFB, HNB, HB7, HG7⟩ := hrel
                by_cases hbn : b ≤ k
                · have b2 : (b : Int) ≤ (k : Int) := Int.ofNat_le.2 hbn
                  go_wp2
                  have HGO := hd (show BGood T W ch m k b (M k b) by rw [HNB.out b (Nat.le_refl _)]; exact BGood.none k b)
                  go_loopw [18] (fun iv wr => ∃ (z : Nat) (xs : Nat → List Value) (M : Nat → Nat → BCell), 1 ≤ z ∧ z ≤ k + 1 ∧ z ≤ m + 1 ∧ iv = .int .i64 z ∧ Hid (TabAt wr gT G n rb xs M) ∧ Hid (∀ k', k' < k → ∀ b, b ≤ n → Full T W ch m k' b (M k' b)) ∧ Hid (∀ k', k < k' → ∀ b, M k' b = none) ∧ Hid (∀ b', b' < b → Full T W ch m k b' (M k b')) ∧ Hid (∀ b', b < b' → M k b' = none) ∧ Hid (BGood T W ch m k b (M k b)) ∧ Hid (Best T W ch m k b z (M k b)) ∧ Hid (Below wB.heap.size wB wr) ∧ Hid (G ≤ wr.heap.size)) (fun iv _ => k + 1 - (intOf iv).toNat)
                  case atStart => exact ⟨1, xs, M, by omega, by omega, by omega, rfl, HTA, HF, HN, HFB, hd (fun b' h1 => HNB.out b' (by omega)), HGO, hd (Best.start k b _), HB7, HG7⟩
                  case round =>
                    clear HTA HF HN HB7 HG7 HFB HNB HGO
                    obtain ⟨z, xs, M, hz1, hzk, hzm, rfl, HTA, HF, HN, HFB, HNB, HGO, HBE, HB7, HG7⟩ := hrel
                    by_cases hzc : z ≤ k ∧ z ≤ m
                    · obtain ⟨hzk', hzm'⟩ := hzc
                      have z2 : (z : Int) ≤ (k : Int) := Int.ofNat_le.2 hzk'
                      have z3 : (z : Int) ≤ (m : Int) := Int.ofNat_le.2 hzm'
                      obtain ⟨p, hp⟩ : ∃ p, p = k - z := ⟨_, rfl⟩
                      obtain ⟨b1, hb1'⟩ : ∃ b1, b1 = b - 1 := ⟨_, rfl⟩
                      have hp0 : p ≤ n := by omega
                      have hb0 : b1 ≤ n := by omega
                      have hpw : IntKind.i64.wrap ((k : Int) - (z : Int)) = (p : Int) := by rw [IntWalk.i64_in _ (by omega)]; omega
                      have hbw : IntKind.i64.wrap ((b : Int) - 1) = (b1 : Int) := by rw [IntWalk.i64_in _ (by omega)]; omega
                      have hpi : (p : Int) < (n : Int) + 1 := by omega
                      have hbi : (b1 : Int) < (n : Int) + 1 := by omega
                      have HFP := hd (HF.out p (by omega) b1 hb0)
                      obtain ⟨x1, y1, z1, d0, d1, d2, hcv⟩ := HTA.out.cell hp0 hb0
                      have co := HTA.out.out p hp0
                      have HPP := hd hp
                      have HBB := hd hb1'
                      clear hp hb1'
                      cases hM : M p b1 with
                      | none =>
                        rw [hM] at hcv
                        have hcv' : Value.agg #[x1, y1, z1] = .agg #[.bool false, .int .i64 0, .slice none 0 0] := hcv
                        cases hcv'
                        have HF0 := hd (show Full T W ch m p b1 none by rw [← hM]; exact HFP.out)
                        clear hcv hM
                        go_wp2
                        have hBY := (Below.refl _ wr).alloc (Nat.le_refl _) (.cells #[.bool false, .int .i64 0, .slice none 0 0] 50)
                        have HTA2 := hd (HTA.out.below hBY)
                        have HB2 := hd (below_tr hBY HB7.out)
                        have HG2 := hd (Nat.le_trans HG7.out hBY.size)
                        have HBE2 := hd (HBE.out.skip hzk' (by rw [← HPP.out, ← HBB.out]; exact HF0.out))
                        clear hBY
                        go_roundw
                        case rel => exact ⟨z + 1, xs, M, by omega, by omega, by omega, by go_num, HTA2, HF, HN, HFB, HNB, HGO, HBE2, HB2, HG2⟩
                        case measure => simp [intOf]; omega
                      | some cs0 =>
                        obtain ⟨q0, s0⟩ := cs0
                        rw [hM] at hcv
                        obtain ⟨z0, hagg, hzo, hzl⟩ := hcv
                        cases hagg
                        have HF0 := hd (show Full T W ch m p b1 (some (q0, s0)) by rw [← hM]; exact HFP.out)
                        clear hM
                        obtain ⟨g1', g2', g3', g4'⟩ := HF0.out.good.ok _ _ rfl
                        have q9 := bcost_bd TW.out (by omega) c0 c1 s0 g1' (by omega)
                        rw [g4'] at q9
                        have st := step_bd TW.out c0 c1 (j := p) (k := k) (b := b) (by have := HPP.out; omega) hkn (by omega)
                        have NG := hd (now_good hz1 hzk' hzm' hb1 (by rw [← HPP.out, ← HBB.out]; exact HF0.out))
                        rw [← HPP.out] at NG
                        have TKA := hd (fun (c' : Int) (e : c' = q0 + (W k - W p) * ((b : Int) * ch + T k)) (ha : PickA (M k b) (some (c', z :: s0))) => HBE.out.takeA hzk' hb1 (by rw [← HPP.out, ← HBB.out]; exact HF0.out) (by rw [← HPP.out, e]) ha)
                        have TKB := hd (fun (c' : Int) (e : c' = q0 + (W k - W p) * ((b : Int) * ch + T k)) (ha : PickB (M k b) (some (c', z :: s0))) => HBE.out.takeB hzk' hb1 (by rw [← HPP.out, ← HBB.out]; exact HF0.out) (by rw [← HPP.out, e]) ha)
                        have rT := (own_below HOT.out HB7.out).cellAt k (by omega)
                        have rW := (own_below HOW.out HB7.out).cellAt k (by omega)
                        have rP := (own_below HOW.out HB7.out).cellAt p (by omega)
                        have pv : ∀ (f : Nat → Int) (j : Nat), (∀ k j, j ≤ k → (preL f k).getD j 0 = f j) → j ≤ n → ((preL f n).map vi)[j]? = some (.int .i64 (f j)) := fun f j hf hj => by
                          have := hf n j hj
                          rw [List.getD_eq_getElem?_getD, List.getElem?_eq_getElem (by rw [preL_len]; omega)] at this
                          rw [List.getElem?_map, List.getElem?_eq_getElem (by rw [preL_len]; omega)]
                          simp only [Option.getD_some] at this
                          rw [Option.map_some, this]
                          rfl
                        rw [pv T k QT.out hkn] at rT
                        rw [pv W k QW.out hkn] at rW
                        rw [pv W p QW.out hp0] at rP
                        have t0 := TW.out.t0 k hkn
                        have v1 := TW.out.w1 k hkn
                        have v2 := TW.out.w1 p hp0
                        clear pv
                        generalize T k = tk at *
                        generalize W k = wk at *
                        generalize W p = wp at *
                        obtain ⟨a1, ha1⟩ : ∃ a1, a1 = wk - wp := ⟨_, rfl⟩
                        obtain ⟨bc, hbc⟩ : ∃ bc, bc = (b : Int) * ch := ⟨_, rfl⟩
                        have h5 : 0 ≤ bc := by rw [hbc]; exact Int.mul_nonneg (by omega) c0
                        have h6 : bc ≤ 9 * 10 := by rw [hbc]; exact Int.mul_le_mul (by omega) c1 c0 (by omega)
                        have e1 : IntKind.i64.wrap (wk - wp) = a1 := by rw [IntWalk.i64_in _ (by omega), ha1]
                        have e2 : IntKind.i64.wrap ((b : Int) * ch) = bc := by rw [← hbc]; exact IntWalk.i64_in _ (by omega)
                        rw [← ha1, ← hbc] at st NG
                        obtain ⟨b3, hb3⟩ : ∃ b3, b3 = bc + tk := ⟨_, rfl⟩
                        have e3 : IntKind.i64.wrap (bc + tk) = b3 := by rw [IntWalk.i64_in _ (by omega), hb3]
                        rw [← hb3] at st NG
                        obtain ⟨pr, hpr⟩ : ∃ pr, pr = a1 * b3 := ⟨_, rfl⟩
                        rw [← hpr] at st NG
                        have e4 : IntKind.i64.wrap (a1 * b3) = pr := by rw [← hpr]; exact IntWalk.i64_in _ (by omega)
                        obtain ⟨co', hco⟩ : ∃ co', co' = q0 + pr := ⟨_, rfl⟩
                        have e5 : IntKind.i64.wrap (q0 + pr) = co' := by rw [IntWalk.i64_in _ (by omega), hco]
                        rw [← hco] at NG
                        have HCE := hd (show co' = q0 + (wk - wp) * ((b : Int) * ch + tk) by rw [hco, hpr, hb3, ha1, hbc])
                        have TKA2 := hd (TKA.out co' HCE.out)
                        have TKB2 := hd (TKB.out co' HCE.out)
                        clear TKA TKB HCE hco hpr hb3 ha1 hbc st q9 t0 v1 v2 h5 h6 g1' g2' g4' HFP
                        obtain ⟨L, hL⟩ : ∃ L, L = s0.length := ⟨_, rfl⟩
                        rw [← hL] at hzo hzl
                        have HLL := hd hL
                        have HL3 := hd g3'
                        clear hL g3'
                        have HZO := hd hzo
                        obtain ⟨A0, cz, rfl, hcz, hrz, _⟩ := own_rd hzo (by unfold maxLen; omega)
                        clear hzo hrz
                        go_upto_region 29 with fail
                        have hBY := (Below.refl _ wr).alloc (Nat.le_refl _) (.cells #[.bool true, .int .i64 q0, .slice A0 L cz] 50)
                        have HTA2 := hd (HTA.out.below hBY)
                        have HB2 := hd (below_tr hBY HB7.out)
                        have HG2 := hd (Nat.le_trans HG7.out hBY.size)
                        have HZ2 := hd (own_below HZO.out hBY)
                        have rT2 := below_at hBY rT
                        have rW2 := below_at hBY rW
                        have rP2 := below_at hBY rP
                        have k1 : (wr.alloc (.cells #[.bool true, .int .i64 q0, .slice A0 L cz] 50)).cell? ⟨wr.heap.size, 1, none⟩ = some (.int .i64 q0) := (World.cell?_alloc_new ..).trans rfl
                        have k2' : (wr.alloc (.cells #[.bool true, .int .i64 q0, .slice A0 L cz] 50)).cell? ⟨wr.heap.size, 2, none⟩ = some (.slice A0 L cz) := (World.cell?_alloc_new ..).trans rfl
                        clear hBY rT rW rP HTA HB7 HG7 HZO d0 d1 d2 co
                        generalize World.alloc wr (.cells #[.bool true, .int .i64 q0, .slice A0 L cz] 50) = X at *
                        generalize wr.heap.size = Gx at *
                        have k3 : (k : Int) < (n : Int) + 1 := by omega
                        go_quiet (fail)
                        clear rT2 rW2 rP2 e1 e2 e3 e4 e5 k1
                        obtain ⟨XN, hXN⟩ : ∃ XN, XN = X.drewN nq := ⟨_, rfl⟩
                        have HTA3 := hd (show TabAt XN gT G n rb xs M by rw [hXN]; exact HTA2.out.below (below_drewN (Below.refl _ X) nq))
                        have HB3 := hd (show Below wB.heap.size wB XN by rw [hXN]; exact below_drewN HB2.out nq)
                        have HG3 := hd (show G ≤ XN.heap.size by rw [hXN]; exact HG2.out)
                        have HZ3 := hd (show XN.ownsRow G 2 1 (.slice A0 L cz) L ((nl s0).map vi) by rw [hXN]; exact HZ2.out)
                        have k4 : XN.cell? ⟨Gx, 2, none⟩ = some (.slice A0 L cz) := by rw [hXN]; exact k2'
                        rw [← hXN]
                        clear hXN HTA2 HB2 HG2 HZ2 k2'
                        have hBY := (Below.refl _ XN).alloc (Nat.le_refl _) (.cells #[.int .i64 z] 2)
                        have k5 := below_at hBY k4
                        have HZ4 := hd (own_below HZ3.out hBY)
                        have HLIT := hd (World.ownsRow_lit (base := XN.heap.size) (e := 2) (size := 1) XN #[.int .i64 z] 1 (Nat.le_refl _) (by unfold maxLen; omega) rfl)
                        have HZC := hd (show ∀ u ∈ (nl s0).map vi, u.oneCell' = true from fun u hu => by
                          obtain ⟨y, _, rfl⟩ := List.mem_map.1 hu; rfl)
                        have HNW := hd (show [Value.int .i64 (z : Int)] ++ (nl s0).map vi = (nl (z :: s0)).map vi from rfl)
                        clear k4
                        go_wp2_with (at_builtin; go_must (refine wpList_app_rows _ rfl _ _ rfl XN.heap.size 1 _ _ rfl HLIT.out G L _ _ rfl HZ4.out HZC.out (by omega) (by simp) ?_); intro v8 w8 ho8 hg8; obtain ⟨gv, cv, rfl, hgv0, hgv1⟩ := own_form ho8 (by omega))
                        have hb8 : Below XN.heap.size XN w8 := below_row hg8 hBY (fun q e => by
                          have e2 := Option.some.inj e
                          simp only at e2
                          omega)
                        have HTA8 := hd (HTA3.out.below hb8)
                        have HB8 := hd (below_tr hb8 HB3.out)
                        have HG8 := hd (Nat.le_trans HG3.out hb8.size)
                        have HL8 := hd (show (z :: s0).length = 1 + L by rw [List.length_cons, HLL.out]; omega)
                        have HV8 := hd (show CellV w8 G (some (co', z :: s0)) (.agg #[.bool true, .int .i64 co', .slice (some ⟨gv, 0, none⟩) (1 + L) cv]) from ⟨_, rfl, by rw [HL8.out, ← HNW.out]; exact own_mono ho8 HG3.out, by rw [HL8.out]; have := HL3.out; have := HLL.out; omega⟩)
                        clear hBY k5 HZ4 HLIT ho8 hg8 hb8 HTA3 HB3 HG3 HZ3 hgv0 hgv1 HZC HNW
                        have hBY := (Below.refl _ w8).alloc (Nat.le_refl _) (.cells #[.bool true, .int .i64 co', .slice (some ⟨gv, 0, none⟩) (1 + L) cv] 50)
                        have HTAY := hd (HTA8.out.below hBY)
                        have HBY := hd (below_tr hBY HB8.out)
                        have HGY := hd (Nat.le_trans HG8.out hBY.size)
                        have HVY := hd (CellV.below HV8.out hBY)
                        have j0 : (w8.alloc (.cells #[.bool true, .int .i64 co', .slice (some ⟨gv, 0, none⟩) (1 + L) cv] 50)).cell? ⟨w8.heap.size, 0, none⟩ = some (.bool true) := (World.cell?_alloc_new ..).trans rfl
                        have j1 : (w8.alloc (.cells #[.bool true, .int .i64 co', .slice (some ⟨gv, 0, none⟩) (1 + L) cv] 50)).cell? ⟨w8.heap.size, 1, none⟩ = some (.int .i64 co') := (World.cell?_alloc_new ..).trans rfl
                        have j2 : (w8.alloc (.cells #[.bool true, .int .i64 co', .slice (some ⟨gv, 0, none⟩) (1 + L) cv] 50)).cell? ⟨w8.heap.size, 2, none⟩ = some (.slice (some ⟨gv, 0, none⟩) (1 + L) cv) := (World.cell?_alloc_new ..).trans rfl
                        clear hBY HTA8 HB8 HG8 HV8
                        generalize World.alloc w8 (.cells #[.bool true, .int .i64 co', .slice (some ⟨gv, 0, none⟩) (1 + L) cv] 50) = Y at *
                        generalize w8.heap.size = Gy at *
                        generalize Value.slice (some ⟨gv, 0, none⟩) (1 + L) cv = vv at *
                        obtain ⟨x2, y2, z2', d0, d1, d2, hcv⟩ := HTAY.out.cell hkn (show b ≤ n by omega)
                        have co := HTAY.out.out k hkn
                        have HCV := hd hcv
                        have BTR := hd (fun (Y' : World) (hb : Below Y.heap.size Y Y') => better_one (M k b) (some (co', z :: s0)) _ _ G Y' (CellV.below HCV.out hb) (CellV.below HVY.out hb))
                        have hb3i : (b : Int) < (n : Int) + 1 := by omega
                        clear hcv
                        have AF := hd (fun (Y' : World) (hb : Below Y.heap.size Y Y') => (show Y'.cell? ⟨gT, k, none⟩ = some (.slice (some ⟨rb k, 0, none⟩) (n + 1) (n + 1)) ∧ (Y'.cell? ⟨rb k, b * 3, none⟩ = some x2 ∧ Y'.cell? ⟨rb k, b * 3 + 1, none⟩ = some y2 ∧ Y'.cell? ⟨rb k, b * 3 + 2, none⟩ = some z2') ∧ Y'.frozen? ⟨rb k, b * 3, none⟩ = false ∧ Y'.frozen? ⟨rb k, b * 3 + 1, none⟩ = false ∧ Y'.frozen? ⟨rb k, b * 3 + 2, none⟩ = false from
                          ⟨below_at hb co, ⟨below_at hb d0, below_at hb d1, below_at hb d2⟩, (own_below (HTAY.out.row k hkn) hb).frozenAt _, (own_below (HTAY.out.row k hkn) hb).frozenAt _, (own_below (HTAY.out.row k hkn) hb).frozenAt _⟩))
                        refine' Code.wp_mono (PickPost.imp (Y := Y) (mk := _) (r := rb k) (o := b * 3) (x := M k b) (y := some (co', z :: s0)) (a := .agg #[x2, y2, z2']) (b := .agg #[.bool true, .int .i64 co', vv]) ?_) ?_
                        rotate_left 2
                        focus
                          go_region_with (go_at_call 21; refine (BTR.out Y.drew ((Below.refl _ Y).drew)).mono ?_; rintro e Y2 ⟨tr, cr, Ar, nr, pr', rfl, hb2, hpick⟩; obtain ⟨co2, ⟨f0, f1, f2⟩, f3, f4, f5⟩ := AF.out Y2 (below_tr hb2 ((Below.refl _ Y).drew)))
                          all_goals (refine ⟨Y2, tr, cr, Ar, nr, pr', ?_, rfl, below_tr hb2 ((Below.refl _ Y).drew), hpick⟩; exact rfl)
                        try rotate_left
                        intro Y2 tr cr Ar nr pr' hb3' hpick
                        have HTZ := HTAY.out.below hb3'
                        have r1' := HTZ.row k hkn
                        have q1' := r1'.stored (b * 3) (.bool tr)
                        have q2' := q1'.1.stored (b * 3 + 1) (.int .i64 cr)
                        have q3' := q2'.1.stored (b * 3 + 2) (.slice Ar nr pr')
                        have hg9 := q1'.2.trans (q2'.2.trans q3'.2)
                        have ho9 := q3'.1
                        have hxl := r1'.1
                        obtain ⟨Z9, hZ9⟩ : ∃ Z9, Z9 = ((Y2.setCell ⟨rb k, b * 3, none⟩ (.bool tr)).setCell ⟨rb k, b * 3 + 1, none⟩ (.int .i64 cr)).setCell ⟨rb k, b * 3 + 2, none⟩ (.slice Ar nr pr') := ⟨_, rfl⟩
                        rw [← hZ9] at hg9 ho9 ⊢
                        have hlo := HTZ.lo k hkn
                        have HB9 := hd (below_row hg9 (below_tr hb3' HBY.out) (fun q e => by cases e; have := HGT.out; omega))
                        have HG9 := hd (Nat.le_trans HGY.out (Nat.le_trans hb3'.size hg9.size))
                        have HFF : ∃ (cc : BCell) (ys : List Value), Hid (TabAt Z9 gT G n rb (updX xs k ys) (updM M k b cc)) ∧ Hid (BGood T W ch m k b cc) ∧ Hid (Best T W ch m k b (z + 1) cc) := by
                          rcases hpick with ⟨he, hp⟩ | ⟨he, hp⟩
                          · exact ⟨M k b, _, hd (HTZ.put hkn (show b ≤ n by omega) (he ▸ CellV.below HCV.out hb3') ho9 hg9 (set3_at hxl (show b ≤ n by omega))), HGO, hd (TKA2.out hp)⟩
                          · exact ⟨some (co', z :: s0), _, hd (HTZ.put hkn (show b ≤ n by omega) (he ▸ CellV.below HVY.out hb3') ho9 hg9 (set3_at hxl (show b ≤ n by omega))), NG, hd (TKB2.out hp)⟩
                        obtain ⟨cc, ys, HT9, HGD9, HBE9⟩ := HFF
                        clear hZ9 hg9 ho9 q1' q2' q3' r1' HTZ hb3' hpick hxl hlo d0 d1 d2 co j0 j1 j2 AF BTR HCV HVY HTAY HBY HGY
                        go_wp2
                        go_roundw
                        case rel => exact ⟨z + 1, _, _, by omega, by omega, by omega, by go_num, HT9, hd (fun k' h1 b' h2 => by rw [updM_other _ _ _ _ (fun e => by omega)]; exact HF.out k' h1 b' h2), hd (fun k' h1 b' => by rw [updM_other _ _ _ _ (fun e => by omega)]; exact HN.out k' h1 b'), hd (fun b' h1 => by rw [updM_other _ _ _ _ (fun e => by omega)]; exact HFB.out b' h1), hd (fun b' h1 => by rw [updM_other _ _ _ _ (fun e => by omega)]; exact HNB.out b' h1), hd (by rw [updM_same]; exact HGD9.out), hd (by rw [updM_same]; exact HBE9.out), HB9, HG9⟩
                        case measure => simp [intOf]; omega
                    · have HFN := hd (HBE.out.full HGO.out hb1 (by omega))
                      by_cases hzk2 : z ≤ k
                      · have z2 : (z : Int) ≤ (k : Int) := Int.ofNat_le.2 hzk2
                        have z3 : ¬ (z : Int) ≤ (m : Int) := by omega
                        go_wp2
                        go_roundw
                        case rel => exact ⟨b + 1, xs, M, by omega, by omega, by go_num, HTA, HF, HN, hd (fun b' h1 => by
                          by_cases he : b' = b
                          · subst he; exact HFN.out
                          · exact HFB.out b' (by omega)), hd (fun b' h1 => HNB.out b' (by omega)), HB7, HG7⟩
                        case measure => simp [intOf]; omega
                      · have z2 : ¬ (z : Int) ≤ (k : Int) := by omega
                        go_wp2
                        go_roundw
                        case rel => exact ⟨b + 1, xs, M, by omega, by omega, by go_num, HTA, HF, HN, hd (fun b' h1 => by
                          by_cases he : b' = b
                          · subst he; exact HFN.out
                          · exact HFB.out b' (by omega)), hd (fun b' h1 => HNB.out b' (by omega)), HB7, HG7⟩
                        case measure => simp [intOf]; omega
                · obtain rfl : b = k + 1 := by omega
                  go_wp2
                  go_roundw
                  case rel => exact ⟨k + 1, xs, M, by omega, by omega, by go_num, HTA, hd (fun k' h1 b' h2 => by
                    by_cases he : k' = k
                    · subst he
                      by_cases hb' : b' < k' + 1
                      · exact HFB.out b' hb'
                      · rw [HNB.out b' (by omega)]; exact full_off (.inr (by omega))
                    · exact HF.out k' (by omega) b' h2), hd (fun k' h1 b' => HN.out k' (by omega) b'), HB7, HG7⟩
                  case measure => simp [intOf]; omega
            · obtain rfl : k = n + 1 := by omega
              have HFN := hd (fun b (hb : b ≤ n) => HF.out n (by omega) b hb)
              have HBX := hd (Below.refl wr.heap.size wr |>.alloc (Nat.le_refl _) (.cells #[.bool false, .int .i64 0, .slice none 0 0] 50))
              have HOX := hd (World.ownsRow_lit (base := wr.heap.size) (e := 50) (size := 3) wr #[.bool false, .int .i64 0, .slice none 0 0] 1 (Nat.le_refl _) (by unfold maxLen; omega) rfl)
              have con := HTA.out.out n (Nat.le_refl _)
              have conX := below_at HBX.out con
              have hnn : (n : Int) < (n : Int) + 1 := by omega
              clear con HN
              go_upto_region 34 with fail
              obtain ⟨wT, hwT⟩ : ∃ wT, wT = wr := ⟨_, rfl⟩
              subst hwT
              obtain ⟨Gb, hGb⟩ : ∃ Gb, Gb = wT.heap.size := ⟨_, rfl⟩
              rw [← hGb] at HOX ⊢
              have HGb := hd hGb
              clear hGb conX
              obtain ⟨X, hX⟩ : ∃ X, X = wT.alloc (.cells #[.bool false, .int .i64 0, .slice none 0 0] 50) := ⟨_, rfl⟩
              rw [← hX] at HOX HBX ⊢
              clear hX
              go_loopw [174] (fun iv w2 => ∃ (b : Nat) (x : BCell) (xa : Bool) (ya : Int) (A2 : Option Addr) (n2 c2 : Nat), b ≤ n + 1 ∧ iv = .int .i64 b ∧ Hid (w2.ownsRow Gb 50 3 (.slice (some ⟨Gb, 0, none⟩) 1 1) 1 [.bool xa, .int .i64 ya, .slice A2 n2 c2]) ∧ Hid (CellV wT G x (.agg #[.bool xa, .int .i64 ya, .slice A2 n2 c2])) ∧ Hid (RowBest T W ch m n b (M n) x) ∧ Hid (Below wT.heap.size wT w2)) (fun iv _ => n + 1 - (intOf iv).toNat)
              case atStart => exact ⟨0, none, false, 0, none, 0, 0, by omega, rfl, HOX, rfl, hd (RowBest.start n (M n)), HBX⟩
              case round =>
                clear HOX HBX
                obtain ⟨b, x, xa, ya, A2, n2, c2, hb, rfl, HO, HCV, HRB, HBX⟩ := hrel
                by_cases hbn : b < n + 1
                · have hb2 : (b : Int) < ((n + 1 : Nat) : Int) := Int.ofNat_lt.2 hbn
                  have hb3 : (b : Int) < (n : Int) + 1 := by omega
                  obtain ⟨x2, y2, z2, d0', d1', d2', hcv⟩ := HTA.out.cell (Nat.le_refl n) (show b ≤ n by omega)
                  obtain ⟨yc, Ay, ny, cy, ly, hform, _, _, _⟩ := CellV.form hcv
                  cases hform
                  have HFB := hd (HFN.out b (by omega))
                  have HCV2 := hd hcv
                  have d0 := below_at HBX.out d0'
                  have d1 := below_at HBX.out d1'
                  have d2 := below_at HBX.out d2'
                  clear hcv d0' d1' d2'
                  generalize hMb : M n b = mb at *
                  have HMB := hd hMb
                  clear hMb
                  generalize mb.isSome = ms at *
                  have e0 : wr.cell? ⟨Gb, 0, none⟩ = some (.bool xa) := HO.out.cellAt 0 (by omega)
                  have e1 : wr.cell? ⟨Gb, 1, none⟩ = some (.int .i64 ya) := HO.out.cellAt 1 (by omega)
                  have e2 : wr.cell? ⟨Gb, 2, none⟩ = some (.slice A2 n2 c2) := HO.out.cellAt 2 (by omega)
                  have hbl := (World.ownsRow.lt HO.out _ rfl).2
                  have BTR := hd (fun (Y' : World) (hb : Below wT.heap.size wT Y') => better_one x mb _ _ G Y' (CellV.below HCV.out hb) (CellV.below HCV2.out hb))
                  have HBY := hd (HBX.out.alloc HBX.out.size (.cells #[.bool ms, .int .i64 yc, .slice Ay ny cy] 50))
                  have hYY := (Below.refl _ wr).alloc (Nat.le_refl _) (.cells #[.bool ms, .int .i64 yc, .slice Ay ny cy] 50)
                  have HOY := hd (HO.out.alloc (.cells #[.bool ms, .int .i64 yc, .slice Ay ny cy] 50))
                  have f0 := below_at hYY e0
                  have f1 := below_at hYY e1
                  have f2 := below_at hYY e2
                  clear hYY e0 e1 e2 hbl
                  go_wp2_with (go_at_call 21; refine (BTR.out _ HBY.out).mono ?_; rintro e Y2 ⟨tr, cr, Ar, nr, pr', rfl, hb2', hpick⟩; have HOZ := hd (own_below HOY.out hb2'); have c0z : Y2.cell? ⟨Gb, 0, none⟩ = some (.bool xa) := HOZ.out.cellAt 0 (by omega); have c1z : Y2.cell? ⟨Gb, 1, none⟩ = some (.int .i64 ya) := HOZ.out.cellAt 1 (by omega); have c2z : Y2.cell? ⟨Gb, 2, none⟩ = some (.slice A2 n2 c2) := HOZ.out.cellAt 2 (by omega); have z0 := HOZ.out.frozenAt 0; have z1 := HOZ.out.frozenAt 1; have z2' := HOZ.out.frozenAt 2)
                  have q1' := HOZ.out.stored 0 (.bool tr)
                  have q2' := q1'.1.stored 1 (.int .i64 cr)
                  have q3' := q2'.1.stored 2 (.slice Ar nr pr')
                  have hg9 := q1'.2.trans (q2'.2.trans q3'.2)
                  have HO9 := hd q3'.1
                  have HB9 := hd (below_row hg9 (below_tr hb2' HBY.out) (fun q e => by cases e; rw [HGb.out]; exact Nat.le_refl _))
                  have HNX : ∃ cc : BCell, Hid (CellV wT G cc (.agg #[.bool tr, .int .i64 cr, .slice Ar nr pr'])) ∧ Hid (RowBest T W ch m n (b + 1) (M n) cc) := by
                    rcases hpick with ⟨he, hp⟩ | ⟨he, hp⟩
                    · exact ⟨x, hd (he ▸ HCV.out), hd (HRB.out.takeA (by rw [HMB.out]; exact hp))⟩
                    · exact ⟨mb, hd (he ▸ HCV2.out), hd (by rw [← HMB.out]; exact HRB.out.takeB (by rw [HMB.out]; exact HFB.out) (by rw [HMB.out]; exact hp))⟩
                  obtain ⟨cc, HC9, HR9⟩ := HNX
                  clear q1' q2' q3' hg9 hpick hb2' HOZ c0z c1z c2z z0 z1 z2' f0 f1 f2 d0 d1 d2
                  refine ⟨⟨b + 1, cc, tr, cr, Ar, nr, pr', by omega, by go_num, HO9, HC9, HR9, HB9⟩, ?_⟩
                  simp [intOf]; omega
                · obtain rfl : b = n + 1 := by omega
                  obtain ⟨c9, s9, hx9, hplan⟩ := HRB.out.plan (fun b hb => HFN.out b hb) m1
                  subst hx9
                  obtain ⟨zz, hzz, hzo, hzl⟩ := HCV.out
                  cases hzz
                  have HPL := hd hplan
                  have hs1 : 1 ≤ s9.length := by
                    cases s9 with
                    | nil => have := hplan.sum; simp at this; omega
                    | cons => simp
                  have HZO := hd (own_below hzo HBX.out)
                  obtain ⟨gz, cz, hform, hgz0, hgz1⟩ := own_form HZO.out hs1
                  cases hform
                  have RV := hd (reverse_any G gz s9.length c2 (nl s9) (by omega) wr HZO.out)
                  have e1 : wr.cell? ⟨Gb, 1, none⟩ = some (.int .i64 ya) := HO.out.cellAt 1 (by omega)
                  have e2 : wr.cell? ⟨Gb, 2, none⟩ = some (.slice (some ⟨gz, 0, none⟩) s9.length c2) := HO.out.cellAt 2 (by omega)
                  have hgzT : gz < Gb := by rw [HGb.out]; exact (World.ownsRow.lt hzo _ rfl).2
                  have HGZ := hd hgz0
                  have hGG : w.heap.size ≤ G := by
                    have h1 := HTA.out.lo 0 (by omega)
                    have h2 := HGT.out
                    have h3 := HB1.out.size
                    have h4 := HBn.out.size
                    omega
                  clear hplan hzo hgz0 hgz1 hzl
                  go_wp2_with (go_at_call 22; refine RV.out.mono ?_; rintro e W9 ⟨⟨vv, rfl⟩, ho9, hg9⟩; have c1 := hg9.cell e1 (by simp; omega); have c2 := hg9.cell e2 (by simp; omega))
                  have HO9 := hd ho9
                  have HB9 := hd (below_row hg9 (below_tr HBX.out (below_tr HB7.out (below_tr HBn.out HB1.out))) (fun q e => by cases e; exact Nat.le_trans hGG HGZ.out))
                  clear ho9 hg9 e1 e2
                  go_quiet (fail)
                  go_wp2
                  go_ret3
                  exact ⟨ya, s9, _, rfl, by rw [← HTT.out, ← HWW.out]; exact HPL.out, by rw [List.map_reverse] at *; exact own_mono HO9.out hGG, below_drewN HB9.out _⟩
end Go.Proofs.Ytkdjeneogclocaa
