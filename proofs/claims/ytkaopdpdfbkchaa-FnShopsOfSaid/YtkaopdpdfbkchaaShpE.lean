/- Routes are told to be routes: a range over slices.Chunk. -/
import Derived.Test.YtkaopdpdfbkchaaShpA
import Derived.Test.YtkaopdpdfbkchaaAllI
import Derived.RangeFuncBox
import Derived.RangeFuncLeaves
import Derived.RangeFuncCalls
import Derived.RangeFuncFrom
import Derived.RangeFuncWrites
import Derived.Shelf.Abstract
import Derived.OwnWalkIn
import Derived.TacticsInMore
import Derived.LoopNIn
import Derived.LoopIn
namespace Go.Proofs.Ytkaopdpdfbkchaa.Plain
set_option linter.unusedVariables false
set_option linter.unusedSimpArgs false
/-- the first k rows -/
def uptoQ (n : Nat) : Nat → List { q : Nat // q < n }
  | 0 => []
  | k + 1 => uptoQ n k ++ (if h : k < n then [⟨k, h⟩] else [])
theorem uptoQ_succ {n k : Nat} (h : k < n) : uptoQ n (k + 1) = uptoQ n k ++ [⟨k, h⟩] := by rw [uptoQ, dif_pos h]
theorem uptoQ_len {n : Nat} : ∀ {k : Nat}, k ≤ n → (uptoQ n k).length = k
  | 0, _ => rfl
  | k + 1, h => by rw [uptoQ_succ (by omega), List.length_append, uptoQ_len (by omega)]; rfl
end Go.Proofs.Ytkaopdpdfbkchaa.Plain
namespace Go.Proofs.Ytkaopdpdfbkchaa
open Go.RowKit Go.Shelf Plain
set_option linter.unusedVariables false
set_option linter.unusedSimpArgs false
attribute [local go_sem ↓] Go.wp_at_zero Go.wp_at_succ
attribute [local go_sem] Oper.semAt_some
/-- what a round keeps: the two boxes of the iterator -/
def KpB (g1 g2 : Nat) (A B : World) : Prop := A.heap.size ≤ B.heap.size ∧ B.heap[g1]? = A.heap[g1]? ∧ B.heap[g2]? = A.heap[g2]?
theorem KpB.refl (g1 g2 : Nat) (A : World) : KpB g1 g2 A A := ⟨Nat.le_refl _, rfl, rfl⟩
theorem KpB.trans {g1 g2 : Nat} {A B C : World} (h : KpB g1 g2 A B) (k : KpB g1 g2 B C) : KpB g1 g2 A C := ⟨Nat.le_trans h.1 k.1, k.2.1.trans h.2.1, k.2.2.trans h.2.2⟩
theorem KpB.cell1 {g1 g2 : Nat} {A B : World} (h : KpB g1 g2 A B) {o : Nat} : B.cell? ⟨g1, o, none⟩ = A.cell? ⟨g1, o, none⟩ := by simp only [World.cell?, h.2.1]
theorem KpB.cell2 {g1 g2 : Nat} {A B : World} (h : KpB g1 g2 A B) {o : Nat} : B.cell? ⟨g2, o, none⟩ = A.cell? ⟨g2, o, none⟩ := by simp only [World.cell?, h.2.2]
theorem KpB.of {g1 g2 n₀ : Nat} {A B : World} (h : Below n₀ A B) (h1 : g1 < n₀) (h2 : g2 < n₀) : KpB g1 g2 A B := ⟨h.size, h.block _ h1, h.block _ h2⟩
theorem run_min_l (ts : Array TypeId) (t : TypeId) (a b : Int) (w : World) : (Builtin.min_ ts t #[.int .i64 a, .int .i64 b]).run Try.prog w = .ok (.int .i64 (if b < a then b else a)) w := by
  simp only [Builtin.min_, List.foldlM_cons, List.foldlM_nil, Builtin.min2]
  by_cases h : b < a
  · simp [go_sem, h]
  · simp [go_sem, h]
theorem Chunk_any (A : Option Addr) (s c m : Nat) (h : 1 ≤ m) (w : World) :
    Calls Try.prog 32 #[.slice A s c, .int .i64 m] w fun r w' => r = .returned (.func (.func 41) #[] #[.pointer (some ⟨w.heap.size, 0, none⟩), .pointer (some ⟨w.heap.size + 1, 0, none⟩)]) ∧ w' = (w.alloc (.cells #[.slice A s c] 25)).alloc (.cells #[.int .i64 m] 3) := by
  have h1 : ¬ (m : Int) < 1 := by omega
  go_enter Try.func32, Try.ntmps32
  go_wp2
  go_ret
  exact ⟨rfl, rfl⟩
set_option maxRecDepth 100000 in
set_option maxHeartbeats 2000000 in
theorem chunk1_in (n' : Nat) (hn : 1 ≤ n') (l g1 g2 b c m n s : Nat) (hs : s = n * m) (m1 : 1 ≤ m) (s8 : s ≤ 8) (sc : s ≤ c) (J Jx : List { q : Nat // q < n } → World → Prop)
    (hY : ∀ pre (x : { q : Nat // q < n }) W, J pre W → pre.length < n → YieldAt Fence.wide (n' - 1) Try.prog l #[.slice (some ⟨b, x.1 * m, none⟩) m m] W fun e W' =>
      (e = .returned (.bool true) ∧ J (pre ++ [x]) W' ∧ KpB g1 g2 W W') ∨ (e = .returned (.bool false) ∧ Jx (pre ++ [x]) W'))
    (hJd : ∀ pre W, J pre W → ∀ k, J pre (W.drewN k))
    (W : World) (c1 : W.cell? ⟨g1, 0, none⟩ = some (.slice (some ⟨b, 0, none⟩) s c)) (c2 : W.cell? ⟨g2, 0, none⟩ = some (.int .i64 m)) (h0 : J [] W) :
    CallsIn Fence.wide n' Try.prog 41 #[.func (.yield l) #[] #[], .pointer (some ⟨g1, 0, none⟩), .pointer (some ⟨g2, 0, none⟩)] W fun e W' => (∃ v, e = .returned v) ∧
      ((∃ ys, ys = uptoQ n n ∧ J ys W') ∨ (∃ pre, (∃ k, k ≤ n ∧ pre = uptoQ n k) ∧ Jx pre W')) := by
  refine callsIn_of_wp Try.func41 rfl trivial ?_ rfl
  simp only [Try.ntmps41, List.size_toArray, List.length_cons, List.length_nil, Nat.reduceAdd, Nat.reduceSub, Array.replicate_succ, Array.replicate_zero, List.push_toArray, List.append_toArray, List.nil_append, List.cons_append]
  have HS := hd hs
  have HJD := hd hJd
  clear hs hJd
  gi_wp2
  gi_loopw [4] (fun i wr => ∃ k : Nat, k ≤ n ∧ i = .int .i64 ((k * m : Nat) : Int) ∧ J (uptoQ n k) wr ∧ KpB g1 g2 W wr)
    (fun i _ => s - (intOf i).toNat)
  case atStart => exact ⟨0, Nat.zero_le _, by simp, h0, KpB.refl _ _ _⟩
  case round =>
    obtain ⟨k, hk, rfl, hJs, hnx⟩ := hrel
    have d1 := hnx.cell1.trans c1
    have d2 := hnx.cell2.trans c2
    by_cases hlt : k < n
    · have hkm : k * m + m ≤ s := by rw [HS.out, ← Nat.succ_mul]; exact Nat.mul_le_mul_right m hlt
      obtain ⟨x, hx⟩ : ∃ x, x = k * m := ⟨_, rfl⟩
      have HX := hd hx
      rw [← hx] at hkm ⊢
      clear hx
      have k2 : (x : Int) < (s : Int) := by omega
      have hmn := fun ts ty w => run_min_l ts ty (m : Int) ((s - x : Nat) : Int) w
      rw [if_neg (by omega)] at hmn
      gi_wp2
      refine wpIn_wide.2 ?_
      refine wp_region_quiet_lit (by kernel_rfl) (by kernel_rfl) ?_
      go_big_quiet_step (fail); go_big_quiet_step (fail); go_big_quiet_step (fail); go_big_quiet_step (fail); go_big_quiet_step (fail); go_big_quiet_step (fail)
      go_big_quiet_step (fail)
      refine wpQuiet_nil ?_; intro _ hw'; obtain ⟨nq, hw''⟩ := hw'; subst hw''
      clear hmn
      have hJd := HJD.out _ _ hJs nq
      obtain ⟨fn, tmps, assign, body, hy, hR⟩ := hY _ ⟨k, hlt⟩ (wr.drewN nq) hJd (by rw [uptoQ_len hk]; exact hlt)
      dsimp only at hy
      rw [← HX.out] at hy
      have hw1 : IntKind.i64.wrap ((x : Int) + (m : Int)) = (x : Int) + (m : Int) := IntWalk.i64_in _ (by omega)
      have sl2 : (x : Int) + (m : Int) ≤ (c : Int) := by omega
      gi_wp2
      refine hR.mono ?_
      rintro e W3 (⟨rfl, hJ3, hk3⟩ | ⟨rfl, hJx3⟩)
      · have d3 := hk3.cell2.trans d2
        have HXK := hd (show ((k + 1) * m : Nat) = x + m by rw [HX.out, Nat.succ_mul])
        clear hw1 d1 d2 hR hy
        have hw1 : IntKind.i64.wrap ((x : Int) + (m : Int)) = (x : Int) + (m : Int) := IntWalk.i64_in _ (by omega)
        gi_wp2
        go_roundw
        case rel => exact ⟨k + 1, by omega, by rw [HXK.out]; push_cast; first | rfl | go_num, by rw [uptoQ_succ hlt]; exact hJ3, hnx.trans hk3⟩
        case measure => simp [intOf]; omega
      · gi_wp2
        refine bodyPost_ret (results_none rfl _ _ _) rfl ?_
        exact ⟨⟨_, rfl⟩, .inr ⟨_, ⟨k + 1, by omega, (uptoQ_succ hlt).symm⟩, hJx3⟩⟩
    · obtain rfl : k = n := by omega
      have e : ((k * m : Nat) : Int) = (s : Int) := by rw [HS.out]
      rw [e]
      gi_wp2
      go_end0
      exact ⟨⟨_, rfl⟩, .inl ⟨_, rfl, hJs⟩⟩
theorem chunk_stops (n' : Nat) (hn : 1 ≤ n') (g1 g2 b c m n s : Nat) (hs : s = n * m) (m1 : 1 ≤ m) (s8 : s ≤ 8) (sc : s ≤ c) (w : World) (hg1 : g1 < w.heap.size) (hg2 : g2 < w.heap.size)
    (c1 : w.cell? ⟨g1, 0, none⟩ = some (.slice (some ⟨b, 0, none⟩) s c)) (c2 : w.cell? ⟨g2, 0, none⟩ = some (.int .i64 m)) :
    SeqStopsK Fence.wide n' Try.prog 41 #[.pointer (some ⟨g1, 0, none⟩), .pointer (some ⟨g2, 0, none⟩)] (fun x : { q : Nat // q < n } => #[.slice (some ⟨b, x.1 * m, none⟩) m m]) (KpB g1 g2) (fun ys => ys = uptoQ n n) (fun pre => ∃ k, k ≤ n ∧ pre = uptoQ n k) n w := fun l J Jx W hW hJ hJx hY h0 =>
  chunk1_in n' hn l g1 g2 b c m n s hs m1 s8 sc J Jx hY (fun pre W' h k => hJ pre W' _ none h (below_all (below_drewN (Below.refl _ _) k) none) (fun r e => by cases e)) W
    ((hW.cell (p := ⟨g1, 0, none⟩) hg1).trans c1) ((hW.cell (p := ⟨g2, 0, none⟩) hg2).trans c2) h0
/-- the routes of a shop -/
structure RtT (w : World) (b c m n s : Nat) (ro : Nat → Nat) : Prop where
  f : FA w b 0 c s (natF ro)
  p : ∀ q, q < n → AllD (fun k => ro (q * m + k)) m
theorem RtT.below {w w' : World} {b c m n s : Nat} {ro : Nat → Nat} (h : RtT w b c m n s ro) (hb : Below w.heap.size w w') : RtT w' b c m n s ro := ⟨h.f.below hb, h.p⟩
theorem RtT.row {w : World} {b c m n s : Nat} {ro : Nat → Nat} (h : RtT w b c m n s ro) (hk : ShK m n s) {q : Nat} (hq : q < n) : FA w b (q * m) m m (natF fun k => ro (q * m + k)) :=
  ⟨Nat.le_refl _, fun i hi => by
    have := h.f.cl (q * m + i) (by rw [hk.e]; exact row_lt hq hi)
    rw [Nat.zero_add] at this
    exact this⟩
set_option maxRecDepth 100000 in
set_option maxHeartbeats 2000000 in
theorem AreRoutes_any (b c m n s : Nat) (ro : Nat → Nat) (w : World) (h : RtT w b c m n s ro) (hk : ShK m n s) :
    Calls Try.prog 14 #[.slice (some ⟨b, 0, none⟩) s c, .int .i64 m] w fun r w' => r = .returned (.bool true) ∧ Below w.heap.size w w' := by
  have AM := hd (fun w => areMachines_any m w hk.m1 hk.m3)
  have CH := hd (fun w => Chunk_any (some ⟨b, 0, none⟩) s c m hk.m1 w)
  have AA := hd (fun (q : Nat) (hq : q < n) (w' : World) (hb : Below w.heap.size w w') => isAll_fa b (q * m) m (fun k => ro (q * m + k)) m w' ((h.below hb).row hk hq) (h.p q hq) hk.m1 (by have := hk.m3; omega))
  have hr := hk.rem
  have m1 := hk.m1
  have m3 := hk.m3
  have n1 := hk.n1
  have n4 := hk.n4
  have s8 := hk.s8
  have sc := h.f.nc
  have HK := hd hk
  have hm0 : ¬ m = 0 := by omega
  have hmm : ¬ (m : Int) = -1 := by omega
  clear h hk
  refine (callsIn_wide (n := 3)).1 ?_
  refine callsIn_of_wp_marks Try.func14 rfl trivial ?_ rfl
  simp only [Try.ntmps14, List.size_toArray, List.length_cons, List.length_nil, Nat.reduceAdd, Nat.reduceSub, Array.replicate_succ, Array.replicate_zero, List.push_toArray, List.append_toArray, List.nil_append, List.cons_append]
  gi_wp2_with fail
  refine ⟨trivial, ?_⟩
  gi_at_call 31
  refine (callsIn_wide.2 (AM.out _)).mono ?_; rintro e w' ⟨rfl, hw⟩; subst hw
  gi_wp2_with fail
  refine ⟨trivial, ?_⟩
  gi_at_call 32
  refine (callsIn_wide.2 (CH.out _)).mono ?_; rintro e w' ⟨rfl, hw⟩; subst hw
  gi_wp2_with fail
  obtain ⟨N, hN⟩ : ∃ N, N = w.heap.size := ⟨_, rfl⟩
  have q0 := Boxed.new w 4 (.bool false)
  have q1 := Boxed.new (w.alloc (.cells #[.bool false] 4)) 3 (.int .i64 0)
  have q2 := Boxed.new ((w.alloc (.cells #[.bool false] 4)).alloc (.cells #[.int .i64 0] 3)) 25 (.slice (some ⟨b, 0, none⟩) s c)
  have q3 := Boxed.new (((w.alloc (.cells #[.bool false] 4)).alloc (.cells #[.int .i64 0] 3)).alloc (.cells #[.slice (some ⟨b, 0, none⟩) s c] 25)) 3 (.int .i64 m)
  have hB0 : Below w.heap.size w ((((w.alloc (.cells #[.bool false] 4)).alloc (.cells #[.int .i64 0] 3)).alloc (.cells #[.slice (some ⟨b, 0, none⟩) s c] 25)).alloc (.cells #[.int .i64 m] 3)) := ((((Below.refl _ w).alloc (Nat.le_refl _) _).alloc (by simp) _).alloc (by simp; omega) _).alloc (by simp; omega) _
  have k0 := ((q0.alloc (.cells #[.int .i64 0] 3)).alloc (.cells #[.slice (some ⟨b, 0, none⟩) s c] 25)).alloc (.cells #[.int .i64 m] 3)
  have k1 := (q1.alloc (.cells #[.slice (some ⟨b, 0, none⟩) s c] 25)).alloc (.cells #[.int .i64 m] 3)
  have k2 := q2.alloc (.cells #[.int .i64 m] 3)
  obtain ⟨W0, hW0⟩ : ∃ W0, W0 = (((w.alloc (.cells #[.bool false] 4)).alloc (.cells #[.int .i64 0] 3)).alloc (.cells #[.slice (some ⟨b, 0, none⟩) s c] 25)).alloc (.cells #[.int .i64 m] 3) := ⟨_, rfl⟩
  have hsz : W0.heap.size = N + 4 := by rw [hW0, hN]; simp
  rw [← hW0] at hB0 k0 k1 k2 q3 ⊢
  simp only [World.size_alloc] at k1 k2 q3
  rw [← hN] at hB0 k0 k1 k2 q3 ⊢
  have HN := hd hN
  clear q0 q1 q2 hW0 hN
  refine wpIn_rangeFunc_ownG rfl (by omega) (gf := 41) (lb := #[.pointer (some ⟨N + 1 + 1, 0, none⟩), .pointer (some ⟨N + 1 + 1 + 1, 0, none⟩)]) rfl trivial (enters_of Try.func41 (by kernel_rfl) rfl)
    (chunk_stops 2 (by omega) (N + 1 + 1) (N + 1 + 1 + 1) b c m n s HK.out.e m1 s8 sc W0 (by omega) (by omega) k2.cell q3.cell) KpB.trans
    (fun W l o o' h1 h2 h3 h4 => KpB.of (belowK_b (w := W0) (Nat.le_refl _) W l o o' h1 h2 h3 h4) (by omega) (by omega)) (Below.refl _ _) (fun _ => rfl)
    (fun pre W => (W.cell? ⟨N, 0, none⟩ = some (.bool false) ∧ W.frozen? ⟨N, 0, none⟩ = false ∧ W.cell? ⟨N + 1, 0, none⟩ = some (.int .i64 (pre.length : Nat)) ∧ W.frozen? ⟨N + 1, 0, none⟩ = false ∧ N + 4 ≤ W.heap.size) ∧ Below N w W)
    (fun _ _ _ => False)
    (OwnFrom.and (Own.from (fun s A B row hs hg hr => ⟨cell_kept hs.1 hg hr, (frozen_kept hs.1 hg hr).trans hs.2.1, cell_kept hs.2.2.1 hg hr, (frozen_kept hs.2.2.1 hg hr).trans hs.2.2.2.1, Nat.le_trans hs.2.2.2.2 hg.size⟩) _) (ownFrom_below (Nat.le_of_eq HN.out) (by omega)))
    (fun _ _ _ _ _ hs _ _ => hs)
    ⟨⟨k0.cell, k0.frozen, k1.cell, k1.frozen, Nat.le_of_eq hsz.symm⟩, hB0⟩
    (fun x => { tmps := #[.slice (some ⟨b, 0, none⟩) s c, .int .i64 m, undef, undef, .pointer (some ⟨N, 0, none⟩), .pointer (some ⟨N + 1, 0, none⟩), .slice (some ⟨b, x.1 * m, none⟩) m m, .int .i64 m, .bool true, .bool false, .bool false, .slice (some ⟨b, 0, none⟩) s c, .int .i64 s, .int .i64 m, .int .i64 0, .bool false, .bool false, .slice (some ⟨b, 0, none⟩) s c, .int .i64 m, .func (.func 41) #[] #[.pointer (some ⟨N + 1 + 1, 0, none⟩), .pointer (some ⟨N + 1 + 1 + 1, 0, none⟩)], .slice (some ⟨b, x.1 * m, none⟩) m m, undef, undef, undef, undef, undef, undef, undef, undef, undef, undef, undef], defers := [] }) ?assign ?body ?done ?stop
  case assign =>
    intro l x W K hK
    gi_wp2
    exact hK
  case body =>
    rintro l pre x W ⟨⟨c0, f0, c1, f1, hsz2⟩, hB⟩ hlen
    have hBN : Below w.heap.size w W := by rw [← HN.out]; exact hB
    have A1 := hd (AA.out x.1 x.2)
    have hlt : x.1 < n := x.2
    obtain ⟨xv, hxv⟩ : ∃ xv, xv = x.1 * m := ⟨_, rfl⟩
    rw [← hxv] at A1 ⊢
    clear hxv
    have hws : IntKind.i64.wrap ((pre.length : Int) + 1) = (pre.length : Int) + 1 := IntWalk.i64_in _ (by omega)
    have hlt1 : N < W.heap.size := by have := block_lt_of_cell c1; simp only at this; omega
    gi_wp2_with fail
    refine ⟨trivial, ?_⟩
    gi_at_call 33
    refine (CallsIn.inRound l (callsIn_wide.2 (A1.out _ (by rw [← HN.out]; exact hB.setCell (p := ⟨N + 1, 0, none⟩) (by simp) _)))).mono ?_
    rintro e W2 ⟨rfl, hb2⟩
    have hg := below_all hb2 none
    gi_wp2
    have c5 : (W.setCell ⟨N + 1, 0, none⟩ (.int .i64 ((pre.length : Int) + 1))).cell? ⟨N + 1, 0, none⟩ = some (.int .i64 ((pre.length : Int) + 1)) := World.cell?_setCell_same' _ _ _ (by rw [c1]; rfl)
    have f5 : (W.setCell ⟨N + 1, 0, none⟩ (.int .i64 ((pre.length : Int) + 1))).frozen? ⟨N + 1, 0, none⟩ = false := by rw [World.frozen?_setCell]; exact f1
    have c4 : (W.setCell ⟨N + 1, 0, none⟩ (.int .i64 ((pre.length : Int) + 1))).cell? ⟨N, 0, none⟩ = some (.bool false) := by rw [World.cell?_setCell_other _ _ _ _ (by simp)]; exact c0
    have f4 : (W.setCell ⟨N + 1, 0, none⟩ (.int .i64 ((pre.length : Int) + 1))).frozen? ⟨N, 0, none⟩ = false := by rw [World.frozen?_setCell]; exact f0
    have hs5 : (W.setCell ⟨N + 1, 0, none⟩ (.int .i64 ((pre.length : Int) + 1))).heap.size = W.heap.size := by simp
    refine ⟨((KeepsOthers.setCell _ _ _).trans (KeepsOthers.of_grownBy hg (fun j o e => by cases e))).from _, KpB.trans (B := W.setCell ⟨N + 1, 0, none⟩ (.int .i64 ((pre.length : Int) + 1))) ⟨Nat.le_of_eq hs5.symm, heap_setCell_other _ _ _ _ (by simp only; omega), heap_setCell_other _ _ _ _ (by simp only; omega)⟩ ⟨hb2.size, hb2.block _ (by rw [hs5]; omega), hb2.block _ (by rw [hs5]; omega)⟩,
      ⟨below_at hb2 c4, (frozen_kept c4 hg (fun r e => by cases e)).trans f4, by rw [List.length_append]; exact below_at hb2 c5, (frozen_kept c5 hg (fun r e => by cases e)).trans f5, by have := hb2.size; omega⟩, (hB.setCell (p := ⟨N + 1, 0, none⟩) (by simp) _).trans (hb2.mono (by rw [hs5]; omega))⟩
  case done =>
    rintro D ys W hD rfl ⟨⟨c0, f0, c1, f1, hsz2⟩, hB⟩ hK
    rw [uptoQ_len (Nat.le_refl _)] at c1
    have n2 : (1 : Int) ≤ (n : Int) := by omega
    have n3 : (n : Int) ≤ 24 := by omega
    gi_wp2
    have hK' := (KeepsOthers.setCell W ⟨N, 0, none⟩ (.bool true)).same D _ hK rfl
    refine ⟨by simp, .inl ⟨_, _, rfl, run_takeDeferred hK', ?_⟩⟩
    have hc5 := cell_kept (World.cell?_setCell_same' W ⟨N, 0, none⟩ (.bool true) (by rw [c0]; rfl)) (grownBy_putObj' _ D (.deferred none)) (fun r e => by cases e; exact ⟨_, hK', rfl⟩)
    refine ⟨.bool true, ?_, rfl, ?_⟩
    · simp [results, Try.f14, go_sem, hc5]
    · rw [← HN.out]
      exact (hB.setCell (p := ⟨N, 0, none⟩) (Nat.le_refl _) (.bool true)).trans (belowK_b (w := w) (Nat.le_of_eq HN.out) _ D _ _ (by rw [← HN.out]; omega) hK' rfl rfl)
  case stop =>
    rintro D c pre W _ _ h _
    exact h.elim
end Go.Proofs.Ytkaopdpdfbkchaa
