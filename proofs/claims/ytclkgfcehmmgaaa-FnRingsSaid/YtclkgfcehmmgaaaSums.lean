/- Sums of a ring's arcs, and the greatest common factor, on both sides. -/
import Derived.Test.YtclkgfcehmmgaaaProg
import Derived.Test.YtclkgfcehmmgaaaRingW
import Derived.Test.YtclkgfcehmmgaaaSlice
import Derived.Test.YtclkgfcehmmgaaaRelax
namespace Go.Proofs.Ytclkgfcehmmgaaa
open Go.RowKit Plain
set_option linter.unusedVariables false
set_option linter.unusedSimpArgs false
attribute [local go_sem ↓] Go.wp_at_zero Go.wp_at_succ

theorem sumQ_take {f : Q4 → Int} {l : List Q4} {k : Nat} {a : Q4} (h : l[k]? = some a) : sumQ f (l.take (k + 1)) = sumQ f (l.take k) + f a := by
  rw [List.take_add_one, h, sumQ_app]; simp [sumQ]
theorem take_bd {f : Q4 → Int} {l : List Q4} {M : Int} (hM : 0 ≤ M) (h : ∀ a ∈ l, 0 ≤ f a ∧ f a ≤ M) (hl : l.length ≤ 12) (k : Nat) : 0 ≤ sumQ f (l.take k) ∧ sumQ f (l.take k) ≤ M * 12 := by
  have a1 := sumQ_le (f := fun _ => 0) (g := f) (l := l.take k) (fun a ha => (h a (List.mem_of_mem_take ha)).1)
  have a2 := sumQ_le (f := f) (g := fun _ => M) (l := l.take k) (fun a ha => (h a (List.mem_of_mem_take ha)).2)
  rw [sumQ_const] at a1 a2
  have h1 : (l.take k).length ≤ l.length := by simp; omega
  have h2 : M * ((l.take k).length : Int) ≤ M * 12 := Int.mul_le_mul_of_nonneg_left (by omega) hM
  omega

set_option maxHeartbeats 2000000 in
set_option maxRecDepth 100000 in
theorem totals_any (v : Value) (l : List Q4) (w : World) (hs : Sl w 4 v l.length (q4s l)) (hl : l.length ≤ 12) (ha : ∀ a ∈ l, (0 ≤ a.c ∧ a.c ≤ 1000) ∧ (0 ≤ a.d ∧ a.d ≤ 10)) :
    Calls Try.prog 33 #[v] w fun e w' => e = .returned (.tuple #[.int .i64 (sumQ Q4.c l), .int .i64 (sumQ Q4.d l)]) ∧ Below w.heap.size w w' := by
  obtain ⟨A, cap, rfl, hcap, hr⟩ := hs
  have HR := hd hr
  have B1 := hd (fun k => take_bd (f := Q4.c) (M := 1000) (by omega) (fun a h => (ha a h).1) hl k)
  have B2 := hd (fun k => take_bd (f := Q4.d) (M := 10) (by omega) (fun a h => (ha a h).2) hl k)
  have T1 := hd (fun (k : Nat) (a : Q4) (h : l[k]? = some a) => sumQ_take (f := Q4.c) h)
  have T2 := hd (fun (k : Nat) (a : Q4) (h : l[k]? = some a) => sumQ_take (f := Q4.d) h)
  have HA := hd (fun (k : Nat) (a : Q4) (h : l[k]? = some a) => ha a (List.mem_of_getElem? h))
  obtain ⟨n, hn⟩ : ∃ n, n = l.length := ⟨_, rfl⟩
  have HF := hd (show l.take n = l by rw [hn]; exact List.take_length)
  rw [← hn] at hcap HR hl ⊢
  clear hn hr ha
  go_enter Try.func33, Try.ntmps33
  go_wp2
  go_loopw [4, 5, 10] (fun x y ix wr => ∃ k : Nat, k ≤ n ∧ ix = .int .i64 k ∧ x = .int .i64 (sumQ Q4.c (l.take k)) ∧ y = .int .i64 (sumQ Q4.d (l.take k)) ∧ Below w.heap.size w wr) (fun _ _ ix _ => n - (intOf ix).toNat)
  case atStart => exact ⟨0, by omega, rfl, rfl, rfl, Below.refl _ _⟩
  case round =>
    obtain ⟨k, hk, rfl, rfl, rfl, hb⟩ := hrel
    have Hb := hd hb
    by_cases hlt : k < n
    · obtain ⟨bb, off, qa, qb, qc, qd, rfl, hq, e0, e1, e2, e3⟩ := (HR.out.below hb).q4 hlt
      have b1 := B1.out k
      have b2 := B2.out k
      have a3 := HA.out k _ hq.out
      simp only at a3
      obtain ⟨⟨a31, a32⟩, ⟨a33, a34⟩⟩ := a3
      have t1 := T1.out k _ hq.out
      have t2 := T2.out k _ hq.out
      simp only at t1 t2
      have Ht := hd (And.intro t1 t2)
      clear t1 t2 hb
      generalize sumQ Q4.c (l.take k) = x at *
      generalize sumQ Q4.d (l.take k) = y at *
      have v1 : IntKind.i64.wrap (x + qc) = x + qc := IntWalk.i64_in _ (by omega)
      have v2 : IntKind.i64.wrap (y + qd) = y + qd := IntWalk.i64_in _ (by omega)
      go_wp2
      go_roundw
      case rel => exact ⟨k + 1, by omega, by go_num, by rw [Ht.out.1], by rw [Ht.out.2], Hb.out.alloc Hb.out.size _⟩
      case measure => simp [intOf]; omega
    · have e : k = n := by omega
      subst e
      rw [HF.out]
      clear hb
      go_wp2
      go_ret2
      exact ⟨rfl, Hb.out⟩

set_option maxHeartbeats 2000000 in
set_option maxRecDepth 100000 in
theorem l05Sums_any (v u : Value) (l xz : List Q4) (is : List Nat) (w : World) (hs : Sl w 4 v l.length (q4s l)) (hu : Sl w 1 u is.length (is.map fun i : Nat => vi (i : Int))) (hl : xz.length ≤ 12) (ha : ∀ a ∈ xz, (0 ≤ a.c ∧ a.c ≤ 1000) ∧ (0 ≤ a.d ∧ a.d ≤ 10))
    (hx : xz = is.map (fun i => l[i]?.getD ⟨0, 0, 0, 0⟩)) (hi : ∀ i ∈ is, i < l.length) (hl2 : l.length ≤ 32) :
    Calls Try.prog 48 #[v, u] w fun e w' => e = .returned (.tuple #[.int .i64 (sumQ Q4.c xz), .int .i64 (sumQ Q4.d xz)]) ∧ Below w.heap.size w w' := by
  obtain ⟨A, cap, rfl, hcap, hr⟩ := hs
  obtain ⟨A2, cap2, rfl, hcap2, hr2⟩ := hu
  have hr3 : Rd w 1 A2 is.length ((is.map fun i : Nat => (i : Int)).map vi) := by rw [List.map_map]; exact hr2
  have HR := hd hr
  have HR2 := hd hr3
  have hxl : xz.length = is.length := by rw [hx]; simp
  have B1 := hd (fun k => take_bd (f := Q4.c) (M := 1000) (by omega) (fun a h => (ha a h).1) hl k)
  have B2 := hd (fun k => take_bd (f := Q4.d) (M := 10) (by omega) (fun a h => (ha a h).2) hl k)
  have T1 := hd (fun (k : Nat) (a : Q4) (h : xz[k]? = some a) => sumQ_take (f := Q4.c) h)
  have T2 := hd (fun (k : Nat) (a : Q4) (h : xz[k]? = some a) => sumQ_take (f := Q4.d) h)
  have HA := hd (fun (k : Nat) (a : Q4) (h : xz[k]? = some a) => ha a (List.mem_of_getElem? h))
  have HI := hd (show ∀ k, k < is.length → ∃ (i : Nat) (a : Q4), (is.map fun i : Nat => (i : Int)).getD k 0 = (i : Int) ∧ i < l.length ∧ xz[k]? = some a ∧ l[i]? = some a from fun k hk => by
    have e := hi is[k] (List.getElem_mem hk)
    refine ⟨is[k], l[is[k]], ?_, e, ?_, List.getElem?_eq_getElem e⟩
    · rw [List.getD_eq_getElem?_getD, List.getElem?_map, List.getElem?_eq_getElem hk]; rfl
    · rw [hx, List.getElem?_map, List.getElem?_eq_getElem hk]
      simp only [Option.map_some, List.getElem?_eq_getElem e, Option.getD_some])
  obtain ⟨n, hn⟩ : ∃ n, n = is.length := ⟨_, rfl⟩
  have HF := hd (show xz.take n = xz by rw [hn, ← hxl]; exact List.take_length)
  obtain ⟨N, hN⟩ : ∃ N, N = l.length := ⟨_, rfl⟩
  rw [hxl] at hl
  rw [← hn] at hcap2 HR2 hl HI ⊢
  rw [← hN] at hcap HR HI hl2 ⊢
  clear hn hr hr2 hr3 ha hN hx hi hxl
  go_enter Try.func48, Try.ntmps48
  go_wp2
  go_loopw [6, 7, 11] (fun x y ix wr => ∃ k : Nat, k ≤ n ∧ ix = .int .i64 k ∧ x = .int .i64 (sumQ Q4.c (xz.take k)) ∧ y = .int .i64 (sumQ Q4.d (xz.take k)) ∧ wr = w) (fun _ _ ix _ => n - (intOf ix).toNat)
  case atStart => exact ⟨0, by omega, rfl, rfl, rfl, rfl⟩
  case round =>
    obtain ⟨k, hk, rfl, rfl, rfl, hw⟩ := hrel
    subst hw
    by_cases hlt : k < n
    · obtain ⟨i, a, i1, i2, i3, i4⟩ := HI.out k hlt
      obtain ⟨bb, off, qa, qb, qc, qd, rfl, hq, e0, e1, e2, e3⟩ := HR.out.q4 i2
      obtain ⟨b2', off2, rfl, f0⟩ := HR2.out.int hlt
      rw [i1] at f0
      have ea := Option.some.inj (hq.out.symm.trans i4)
      subst ea
      have b1 := B1.out k
      have b2 := B2.out k
      have a3 := HA.out k _ i3
      simp only at a3
      obtain ⟨⟨a31, a32⟩, ⟨a33, a34⟩⟩ := a3
      have t1 := T1.out k _ i3
      have t2 := T2.out k _ i3
      simp only at t1 t2
      have Ht := hd (And.intro t1 t2)
      clear t1 t2 i1 i3 i4 hq e0 e1
      generalize sumQ Q4.c (xz.take k) = x at *
      generalize sumQ Q4.d (xz.take k) = y at *
      have v1 : IntKind.i64.wrap (x + qc) = x + qc := IntWalk.i64_in _ (by omega)
      have v2 : IntKind.i64.wrap (y + qd) = y + qd := IntWalk.i64_in _ (by omega)
      have j1 : (0 : Int) ≤ (i : Int) := by omega
      have j2 : (i : Int) < (N : Int) := by omega
      go_wp2
      go_roundw
      case rel => exact ⟨k + 1, by omega, by go_num, by rw [Ht.out.1], by rw [Ht.out.2], by trivial⟩
      case measure => simp [intOf]; omega
    · have e : k = n := by omega
      subst e
      rw [HF.out]
      go_wp2
      go_ret2
      exact ⟨rfl, Below.refl _ _⟩

theorem gcd_step {x y g : Nat} (h : Nat.gcd x y = g) (hy : y ≠ 0) : Nat.gcd y (x % y) = g := by
  rw [← h, Nat.gcd_comm x y, Nat.gcd_rec y x, Nat.gcd_comm]
set_option maxHeartbeats 1000000 in
theorem common_any (a b : Nat) (w : World) (h1 : a ≤ 1000000) (h2 : b ≤ 1000000) :
    Calls Try.prog 34 #[.int .i64 a, .int .i64 b] w fun e w' => e = .returned (.int .i64 (Nat.gcd a b)) ∧ Below w.heap.size w w' := by
  have GS := hd (fun x y (h : Nat.gcd x y = Nat.gcd a b) hy => gcd_step h hy)
  have GZ := hd (fun x (h : Nat.gcd x 0 = Nat.gcd a b) => (show x = Nat.gcd a b by rw [← h, Nat.gcd_zero_right]))
  generalize hg : Nat.gcd a b = g at *
  have HG := hd hg
  clear hg
  go_enter Try.func34, Try.ntmps34
  go_wp2
  go_loopw [0, 1] (fun x y wr => ∃ i j : Nat, x = .int .i64 i ∧ y = .int .i64 j ∧ Hid (Nat.gcd i j = g) ∧ i ≤ 1000000 ∧ j ≤ 1000000 ∧ Below w.heap.size w wr) (fun _ y _ => (intOf y).toNat)
  case atStart => exact ⟨a, b, rfl, rfl, HG, h1, h2, Below.refl _ _⟩
  case round =>
    obtain ⟨i, j, rfl, rfl, hij, hi, hj, hb⟩ := hrel
    have Hb := hd hb
    clear hb
    by_cases hz : j = 0
    · subst hz
      have e := GZ.out i hij.out
      subst e
      go_wp2
      go_ret
      exact ⟨rfl, Hb.out⟩
    · have HS := hd (GS.out i j hij.out hz)
      have hlt := Nat.mod_lt i (show 0 < j by omega)
      have j1 : ¬ (j : Int) = 0 := by omega
      have hm : (i : Int).tmod (j : Int) = ((i % j : Nat) : Int) := rfl
      generalize i % j = r at *
      clear hij
      go_wp2
      go_quiet (fail)
      go_wp2
      go_roundw
      case rel => exact ⟨j, r, rfl, by go_num, HS, hj, by omega, below_drewN Hb.out _⟩
      case measure => simp [intOf]; omega

set_option maxHeartbeats 1000000 in
theorem l05Common_any (a b : Nat) (w : World) (h1 : a ≤ 1000000) (h2 : b ≤ 1000000) :
    Calls Try.prog 49 #[.int .i64 a, .int .i64 b] w fun e w' => e = .returned (.int .i64 (Nat.gcd a b)) ∧ Below w.heap.size w w' := by
  have GS := hd (fun x y (h : Nat.gcd x y = Nat.gcd a b) hy => gcd_step h hy)
  have GZ := hd (fun x (h : Nat.gcd x 0 = Nat.gcd a b) => (show x = Nat.gcd a b by rw [← h, Nat.gcd_zero_right]))
  generalize hg : Nat.gcd a b = g at *
  have HG := hd hg
  clear hg
  go_enter Try.func49, Try.ntmps49
  go_wp2
  go_loopw [0, 1] (fun x y wr => ∃ i j : Nat, x = .int .i64 i ∧ y = .int .i64 j ∧ Hid (Nat.gcd i j = g) ∧ i ≤ 1000000 ∧ j ≤ 1000000 ∧ Below w.heap.size w wr) (fun _ y _ => (intOf y).toNat)
  case atStart => exact ⟨a, b, rfl, rfl, HG, h1, h2, Below.refl _ _⟩
  case round =>
    obtain ⟨i, j, rfl, rfl, hij, hi, hj, hb⟩ := hrel
    have Hb := hd hb
    clear hb
    by_cases hz : j = 0
    · subst hz
      have e := GZ.out i hij.out
      subst e
      go_wp2
      go_ret
      exact ⟨rfl, Hb.out⟩
    · have HS := hd (GS.out i j hij.out hz)
      have hlt := Nat.mod_lt i (show 0 < j by omega)
      have j1 : ¬ (j : Int) = 0 := by omega
      have hm : (i : Int).tmod (j : Int) = ((i % j : Nat) : Int) := rfl
      generalize i % j = r at *
      clear hij
      go_wp2
      go_roundw
      case rel => exact ⟨j, r, rfl, by go_num, HS, hj, by omega, Hb.out⟩
      case measure => simp [intOf]; omega
end Go.Proofs.Ytclkgfcehmmgaaa
