/- Costs of changes, and jobs that are all there at once: contracts. -/
import Derived.Test.YtkdjeneogclocaaChgT
import Derived.Test.YtkdjeneogclocaaJobB
import Derived.Test.YtkdjeneogclocaaProN
namespace Go.Proofs.Ytkdjeneogclocaa
open Go.RowKit Plain
set_option linter.unusedVariables false
set_option linter.unusedSimpArgs false
attribute [local go_sem ↓] Go.wp_at_zero Go.wp_at_succ
/-- a slice of costs -/
structure CostsAt (w : World) (V : Value) (cs : List Int) (n : Nat) : Prop where
  sl : Sl w 1 V (n * n) (cs.map vi)
  len : cs.length = n * n
  bd : ∀ x ∈ cs, 0 ≤ x ∧ x ≤ 8
theorem CostsAt.below {w w' : World} {V : Value} {cs : List Int} {n : Nat} (h : CostsAt w V cs n) (hb : Below w.heap.size w w') : CostsAt w' V cs n := ⟨h.sl.below hb, h.len, h.bd⟩
def ctF (cs : List Int) (n i j : Nat) : Int := cs.getD (i * n + j) 0
theorem CostsAt.ct {w : World} {V : Value} {cs : List Int} {n : Nat} (h : CostsAt w V cs n) (i j : Nat) : 0 ≤ ctF cs n i j ∧ ctF cs n i j ≤ 8 := by
  rw [ctF, List.getD_eq_getElem?_getD]
  rcases Nat.lt_or_ge (i * n + j) cs.length with h1 | h1
  · rw [List.getElem?_eq_getElem h1, Option.getD_some]; exact h.bd _ (List.getElem_mem h1)
  · rw [List.getElem?_eq_none h1, Option.getD_none]; omega
theorem sq_le {n : Nat} (h : n ≤ 6) : n * n ≤ 36 := Nat.mul_le_mul h h
theorem ij_lt {n i j : Nat} (hi : i < n) (hj : j < n) : i * n + j < n * n := by
  have h1 : (i + 1) * n ≤ n * n := Nat.mul_le_mul (by omega) (Nat.le_refl _)
  rw [Nat.add_mul, Nat.one_mul] at h1
  omega
/-- the number in place (i, j) of the costs -/
theorem ct_at {w : World} {B : Option Addr} {n p : Nat} {cs : List Int} (hr : Rd w 1 B p (cs.map vi)) (hp : p = n * n) (n6 : n ≤ 6) {i j : Nat} (hi : i < n) (hj : j < n) :
    ∃ m q b off : Nat, B = some ⟨b, off, none⟩ ∧ w.cell? ⟨b, off + q, none⟩ = some (.int .i64 (ctF cs n i j)) ∧ IntKind.i64.wrap ((i : Int) * (n : Int)) = (m : Int) ∧ IntKind.i64.wrap ((m : Int) + (j : Int)) = (q : Int) ∧ (0 : Int) ≤ (q : Int) ∧ (q : Int) < (p : Int) := by
  have h1 := ij_lt hi hj
  have h2 := sq_le n6
  obtain ⟨b, off, rfl, hc⟩ := hr.int (k := i * n + j) (by omega)
  refine ⟨i * n, i * n + j, b, off, rfl, hc, ?_, ?_, by omega, by omega⟩
  · rw [IntWalk.i64_in]
    · push_cast; rfl
    · have : ((i * n : Nat) : Int) ≤ 36 := by omega
      push_cast at this
      have h3 : (0 : Int) ≤ (i : Int) * (n : Int) := by
        have : ((0 : Nat) : Int) ≤ ((i * n : Nat) : Int) := by omega
        simpa using this
      omega
  · rw [IntWalk.i64_in _ (by omega)]; push_cast; rfl
set_option maxHeartbeats 1000000 in
theorem areCosts_any (V : Value) (cs : List Int) (n : Nat) (w : World) (h : CostsAt w V cs n) (n1 : 1 ≤ n) (n6 : n ≤ 6) :
    Calls Try.prog 16 #[V, .int .i64 n] w fun r w' => r = .returned (.bool true) ∧ w' = w := by
  have hs := h.sl
  have hl := h.len
  have hbd := h.bd
  have hp := sq_le n6
  obtain ⟨p, hpe⟩ : ∃ p, p = n * n := ⟨_, rfl⟩
  rw [← hpe] at hs hl hp
  have hpi : (n : Int) * (n : Int) = (p : Int) := by rw [hpe]; push_cast; rfl
  have g1 : inR (n : Int) 1 10 = true := inR_iff.2 ⟨by omega, by omega⟩
  have g2 : cs.all (inR · 0 10000) = true := List.all_eq_true.2 fun x hx => inR_iff.2 ⟨(hbd x hx).1, by have := (hbd x hx).2; omega⟩
  have HA := hd (areWithin_any V cs 0 10000 w (by rw [hl]; exact hs))
  rw [g2] at HA
  obtain ⟨A, cap, rfl, hcap, hr⟩ := hs
  have hwp : IntKind.i64.wrap (p : Int) = (p : Int) := IntWalk.i64_in _ (by omega)
  clear h hr hl hbd g2 hpe
  go_enter Try.func16, Try.ntmps16
  go_wp2_with (first
    | (go_at_call 17; refine (within_t _ _ _ _ g1).mono ?_; rintro e w' ⟨rfl, hw⟩; subst hw)
    | (go_at_call 24; refine HA.out.mono ?_; rintro e w' ⟨rfl, hw⟩; subst hw))
  go_ret
  exact ⟨rfl, rfl⟩
set_option maxHeartbeats 4000000 in
theorem ChangeCost_any (V U : Value) (d cs : List Int) (n : Nat) (w : World) (h : OrdAt w V d n) (hc : CostsAt w U cs n) (n1 : 1 ≤ n) (n6 : n ≤ 6) :
    Calls Try.prog 9 #[V, U] w fun r w' => r = .returned (.tuple #[.int .i64 (chgF (ctF cs n) (ordF d) (n - 1)), .bool true]) ∧ Below w.heap.size w w' := by
  have HC := hd hc
  have HO := hd h
  have AC := hd (areCosts_any U cs n w hc n1 n6)
  have IO := hd (IsOrder_any V d n w h n1 (by omega))
  obtain ⟨A, cap, rfl, hcap, hr⟩ := h.sl
  obtain ⟨B, capb, rfl, hcapb, hrb⟩ := hc.sl
  obtain ⟨p, hp⟩ : ∃ p, p = n * n := ⟨_, rfl⟩
  rw [← hp] at hcapb hrb ⊢
  have CT := hd (fun (w' : World) (hb : Below w.heap.size w w') (i j : Nat) (hi : i < n) (hj : j < n) => ct_at (hrb.below hb) hp n6 hi hj)
  have HR := hd hr
  rw [← hp] at AC
  have BD := hd (fun k => chgF_bd (fun i j => hc.ct i j) (ordF d) k)
  have CB := hd (fun i j => hc.ct i j)
  clear h hc hr hrb HC hp
  go_enter Try.func9, Try.ntmps9
  go_wp2_with (first
    | (go_at_call 16; refine AC.out.mono ?_; rintro e w' ⟨rfl, hw⟩; subst hw)
    | (go_at_call 10; refine IO.out.mono ?_; rintro e w1 ⟨rfl, hb1⟩))
  have HB1 := hd hb1
  obtain ⟨b, off, rfl, c0⟩ := (HR.out.below hb1).int (k := 0) (by omega)
  rw [HO.out.cast (show 0 < n by omega), Nat.add_zero] at c0
  have f0 := HO.out.perm.lt 0 (by omega)
  obtain ⟨m1, q1, bb, ob, rfl, c1, e1, e2, e3, e4⟩ := CT.out w1 hb1 _ _ f0 f0
  have F0 := hd (show chgF (ctF cs n) (ordF d) 0 = ctF cs n (ordF d 0) (ordF d 0) from rfl)
  rw [← F0.out] at c1
  clear hb1 AC IO F0
  generalize ordF d 0 = x0 at *
  go_wp2_with fail
  go_quiet (fail)
  clear c0 c1 e1 e2 e3 e4 f0
  rcases Nat.lt_or_ge 1 n with hn2 | hn2
  · have hcc : ¬ cap = 1 := by omega
    go_upto_region 6 with fail
    obtain ⟨m, hm⟩ : ∃ m, m = n - 1 := ⟨_, rfl⟩
    rw [← hm]
    have HM := hd hm
    clear hm
    go_loopw [7, 37] (fun sv iv wr => ∃ (k q : Nat), k ≤ m ∧ iv = .int .i64 k ∧ sv = .int .i64 (chgF (ctF cs n) (ordF d) k) ∧ wr = w1.drewN q) (fun _ iv _ => m - (intOf iv).toNat)
    case atStart => exact ⟨0, nq, by omega, rfl, rfl, rfl⟩
    case round =>
      obtain ⟨k, q, hk, rfl, rfl, hw⟩ := hrel
      subst hw
      by_cases hlt : k < m
      · have k2 : (k : Int) < (m : Int) := Int.ofNat_lt.2 hlt
        have hkn : k < n := by have := HM.out; omega
        have hkn1 : k + 1 < n := by have := HM.out; omega
        have k3 : (k : Int) < (n : Int) := Int.ofNat_lt.2 hkn
        obtain ⟨_, _, e0, ck⟩ := (HR.out.below HB1.out).int hkn
        cases e0
        obtain ⟨_, _, e0, cl⟩ := (HR.out.below HB1.out).int hkn1
        cases e0
        rw [HO.out.cast hkn] at ck
        rw [HO.out.cast hkn1] at cl
        have a1 := HO.out.perm.lt k hkn
        have a2 := HO.out.perm.lt (k + 1) hkn1
        rw [show off + (k + 1) = off + 1 + k by omega] at cl
        obtain ⟨m1, q1, _, _, e0, c1, e1, e2, e3, e4⟩ := CT.out w1 HB1.out _ _ a1 a2
        cases e0
        have FS := hd (show chgF (ctF cs n) (ordF d) (k + 1) = chgF (ctF cs n) (ordF d) k + ctF cs n (ordF d k) (ordF d (k + 1)) from rfl)
        have b1 := BD.out k
        have b2 := CB.out (ordF d k) (ordF d (k + 1))
        generalize ctF cs n (ordF d k) (ordF d (k + 1)) = z at *
        generalize ordF d k = x1 at *
        generalize ordF d (k + 1) = x2 at *
        obtain ⟨y, hy⟩ : ∃ y, y = chgF (ctF cs n) (ordF d) k := ⟨_, rfl⟩
        rw [← hy] at FS b1 ⊢
        have w9 : IntKind.i64.wrap (y + z) = y + z := IntWalk.i64_in _ (by omega)
        have e5 : ((k : Int) < ((n - 1 : Nat) : Int)) := by have := HM.out; omega
        clear hy b1 b2 a1 a2 hkn1
        go_wp2
        go_roundw
        case rel => exact ⟨k + 1, q, by omega, by go_num, by rw [FS.out], by first | rfl | trivial⟩
        case measure => simp [intOf]; omega
      · obtain rfl : m = k := by omega
        rw [HM.out]
        go_wp2
        go_ret2
        exact ⟨rfl, below_drewN HB1.out _⟩
  · obtain rfl : n = 1 := by omega
    go_upto_region 6 with fail
    all_goals
      go_loopw [7, 37] (fun sv iv wr => iv = .int .i64 0 ∧ sv = .int .i64 (chgF (ctF cs 1) (ordF d) 0) ∧ wr = w1.drewN nq) (fun _ _ _ => 0)
      case atStart => exact ⟨rfl, rfl, rfl⟩
      case round =>
        obtain ⟨rfl, rfl, hw⟩ := hrel
        subst hw
        go_wp2
        go_ret2
        exact ⟨rfl, below_drewN HB1.out _⟩
set_option maxHeartbeats 1000000 in
theorem late_any (qa qb qc qd : Int) (w : World) (h : qb = 0) :
    Calls Try.prog 28 #[.agg #[.int .i64 qa, .int .i64 qb, .int .i64 qc, .int .i64 qd]] w fun r w' => r = .returned (.bool false) ∧ Below w.heap.size w w' := by
  subst h
  go_enter Try.func28, Try.ntmps28
  go_wp2
  go_ret
  exact ⟨rfl, by go_grown⟩
set_option maxHeartbeats 1000000 in
theorem lateIx_any (V : Value) (l : List Q4) (n : Nat) (w : World) (h : JobsAt w V l n) (hf : freeL l n) :
    Calls Try.prog 30 #[V, .func (.func 28) #[] #[]] w fun r w' => r = .returned (.int .i64 (-1)) ∧ Below w.heap.size w w' := by
  have HF := hd hf
  obtain ⟨A, cap, rfl, hcap, hr⟩ := h.sl
  have n24 := h.n24
  clear h hf
  go_enter Try.func30, Try.ntmps30
  go_wp2
  go_loopw [8] (fun i wr => ∃ k : Nat, k ≤ n ∧ i = .int .i64 k ∧ Below w.heap.size w wr) (fun i _ => n - (intOf i).toNat)
  case atStart => exact ⟨0, by omega, rfl, Below.refl _ _⟩
  case round =>
    obtain ⟨k, hk, rfl, hb⟩ := hrel
    by_cases hlt : k < n
    · obtain ⟨b, off, qa, qb, qc, qd, rfl, hq, c0, c1, c2, c3⟩ := (hr.below hb).q4 hlt
      have Hb := hd hb
      have h0 := HF.out k hlt
      rw [jobAt_at hq.out] at h0
      have H0 := hd (show qb = 0 from h0)
      clear hr hb h0
      have i1 : (0 : Int) ≤ (k : Int) := by omega
      have i2 : (k : Int) < (n : Int) := by omega
      go_wp2_with (go_at_call 28; refine (late_any _ _ _ _ _ H0.out).mono ?_; rintro e w' ⟨rfl, h⟩)
      go_roundw
      case rel => exact ⟨k + 1, by omega, by go_num, below_tr h Hb.out⟩
      case measure => simp [intOf]; omega
    · go_wp2
      go_ret
      exact ⟨rfl, hb⟩
set_option maxHeartbeats 1000000 in
theorem lateHas_any (V : Value) (l : List Q4) (n : Nat) (w : World) (h : JobsAt w V l n) (hf : freeL l n) :
    Calls Try.prog 27 #[V, .func (.func 28) #[] #[]] w fun r w' => r = .returned (.bool false) ∧ Below w.heap.size w w' := by
  have H := hd (lateIx_any V l n w h hf)
  clear h hf
  go_enter Try.func27, Try.ntmps27
  go_wp2_with (go_at_call 30; refine H.out.mono ?_; rintro e w' ⟨rfl, hb⟩)
  go_ret
  exact ⟨rfl, hb⟩
set_option maxHeartbeats 1000000 in
theorem areAtOnce_any (V : Value) (l : List Q4) (n : Nat) (w : World) (h : JobsAt w V l n) (hf : freeL l n) :
    Calls Try.prog 20 #[V] w fun r w' => r = .returned (.bool true) ∧ Below w.heap.size w w' := by
  have AJ := hd (AreJobs_any V l n w h)
  have LH := hd (fun w' (hb : Below w.heap.size w w') => lateHas_any V l n w' (h.below hb) hf)
  clear h hf
  go_enter Try.func20, Try.ntmps20
  go_wp2_with (first
    | (go_at_call 26; refine AJ.out.mono ?_; rintro e w1 ⟨rfl, hb1⟩)
    | (go_at_call 27; refine (LH.out _ hb1).mono ?_; rintro e w2 ⟨rfl, hb2⟩))
  go_ret
  exact ⟨rfl, below_tr hb2 hb1⟩
end Go.Proofs.Ytkdjeneogclocaa
