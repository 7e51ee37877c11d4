/- The reference's draw of valid jobs: a contract. -/
import Derived.Test.YtkdjeneogclocaaProg
import Derived.Test.YtkdjeneogclocaaSrcI
import Derived.Test.YtkdjeneogclocaaApp
import Derived.Test.YtkdjeneogclocaaJobC
import Derived.StillTailTactics
import Derived.Deep.CutRange
namespace Go.Proofs.Ytkdjeneogclocaa
open Go.RowKit Plain
set_option linter.unusedVariables false
set_option linter.unusedSimpArgs false
attribute [local go_sem ↓] Go.wp_at_zero Go.wp_at_succ
theorem info_jobD : (Try.prog.info? 37).map (fun i => (i.zero, i.size, i.bytes)) = some (some (.agg #[.int .i64 0, .int .i64 0, .int .i64 0, .int .i64 0]), 4, 32) := by kernel_rfl
theorem cell_four_job (w : World) (x y z u0 : Value) (t : TypeId) : ∀ j u, [x, y, z, u0][j]? = some u → (w.alloc (.cells #[x, y, z, u0] t)).cell? ((⟨w.heap.size, 0, none⟩ : Addr).add j) = some u := by
  intro j u hj
  match j, hj with
  | 0, hj => simp at hj; subst hj; simp [Addr.add]
  | 1, hj => simp at hj; subst hj; simp [Addr.add]
  | 2, hj => simp at hj; subst hj; simp [Addr.add]
  | 3, hj => simp at hj; subst hj; simp [Addr.add]
theorem wpList_app_jobD {ops : Array Oper} {rest : List Oper} {o : Oper} {a : Act} {Q : Exit → Act → World → Prop} (w : World) (T : TypeId) (x0 x1 x2 x3 : Int) (hgd : o.guard = none) (s x : Operand)
    (ho : o.op = .call { callee := .builtin .append, args := #[s, x], argTypes := #[33, 33] }) (base n : Nat) (v : Value) (xs : List Value) (hs : a.eval s = v) (hown : w.ownsRow base 37 4 v n xs)
    (g : Nat) (hx : a.eval x = .slice (some ⟨g, 0, none⟩) 1 1) (hg : w.heap.size = g) (hn : n ≤ 1048576) (hbase : base ≤ w.heap.size)
    (h : ∀ v' w', w'.ownsRow base 37 4 v' (n + 1) (xs ++ [.int .i64 x0, .int .i64 x1, .int .i64 x2, .int .i64 x3]) → w.grownBy w' v.ownBlock → Apart w v v' → wpList Try.prog ops Q rest (a.put o.dst v') w') :
    wpList Try.prog ops Q (o :: rest) a (w.alloc (.cells #[.int .i64 x0, .int .i64 x1, .int .i64 x2, .int .i64 x3] T)) := by
  subst hg
  obtain ⟨i0, hi, hz0, hz1, hz2⟩ := info_parts info_jobD
  refine wpList_append_own_at _ hgd s x 33 ho base 37 i0 _ 4 32 Try.underlying33 hi hz0 hz1 hz2 rfl (by decide) v n xs hs (hown.alloc _) ⟨w.heap.size, 0, none⟩ 1 1 [.int .i64 x0, .int .i64 x1, .int .i64 x2, .int .i64 x3] hx rfl (cell_four_job _ _ _ _ _ _) (by intro u hu; simp at hu; rcases hu with rfl | rfl | rfl | rfl <;> rfl) (by unfold maxLen; omega) (by omega) (Nat.le_trans hbase (by simp)) ?_
  intro v' w' h2 h3 _ h5
  exact h v' w' h2 ((below_all ((Below.refl _ w).alloc (Nat.le_refl _) _) _).trans h3) (apart_of (by simp) h5)
/-- a drawn job -/
def jobD (q : Q4) : Prop := (1 ≤ q.a ∧ q.a ≤ 9) ∧ (0 ≤ q.b ∧ q.b ≤ 11) ∧ (0 ≤ q.c ∧ q.c ≤ 39) ∧ (0 ≤ q.d ∧ q.d ≤ 5)
def JobsOut (N : Nat) (g : Nat) (w : World) (r : Ending) (w' : World) : Prop :=
  ∃ (l : List Q4) (u : Value), r = .returned u ∧ l.length = N ∧ (∀ q ∈ l, jobD q) ∧ w'.ownsRow w.heap.size 37 4 u l.length (q4s l) ∧ w.grownBy w' (some g)
theorem sl_grownJ {w w' : World} {cv : Value} {n size g : Nat} {cs : List Value} (h : Sl w size cv n cs) (hne : NeSl cv g) (hg : w.grownBy w' (some g)) : Sl w' size cv n cs := sl_grownO h hne hg
theorem sbox4J {w : World} {g : Nat} {a b c d : Value} {t : TypeId} (h : SBox w g #[a, b, c, d] t) : w.cell? ⟨g, 0, none⟩ = some a ∧ w.cell? ⟨g, 1, none⟩ = some b ∧ w.cell? ⟨g, 2, none⟩ = some c ∧ w.cell? ⟨g, 3, none⟩ = some d := ⟨sbox_cell h 0, sbox_cell h 1, sbox_cell h 2, sbox_cell h 3⟩
theorem sbox_ltJ {w : World} {g : Nat} {cs : Array Value} {t : TypeId} (h : SBox w g cs t) : g < w.heap.size := by
  rcases Nat.lt_or_ge g w.heap.size with h1 | h1
  · exact h1
  · rw [SBox, Array.getElem?_eq_none h1] at h; cases h
theorem grown_rowJ {w w1 w2 : World} {g : Nat} {row : Option Nat} (h1 : w.grownBy w1 (some g)) (h2 : w1.grownBy w2 row) (hR : ∀ k, row = some k → w.heap.size ≤ k) : w.grownBy w2 (some g) :=
  ⟨h2.os.trans h1.os, h2.tape.trans h1.tape, h2.output.trans h1.output, Nat.le_trans h1.size h2.size, fun k hk hne => by
    rw [h2.block k (Nat.lt_of_lt_of_le hk h1.size) (by intro e; have := hR k e.symm; omega), h1.block k hk hne]⟩
theorem grown_overJ {w w1 w2 : World} {g R : Nat} (h1 : w.grownBy w1 (some g)) (h2 : w1.grownBy w2 (some R)) (hR : w.heap.size ≤ R) : w.grownBy w2 (some g) :=
  grown_rowJ h1 h2 (fun k e => by cases e; exact hR)
def OneB (g : Nat) (cv : Value) (A : Nat) (w : World) (r : Ending) (w' : World) : Prop := ∃ (b : Bool) (A1 : Nat) (sd1 : Int), r = .returned (.bool b) ∧ SrcBox w' g cv A1 sd1 ∧ A1 ≤ A + 1 ∧ 0 ≤ sd1 ∧ sd1 < 18446744073709551616 ∧ w.grownBy w' (some g)
set_option maxHeartbeats 400000 in
theorem one_any (g : Nat) (cv : Value) (xs : List Nat) (hx : ∀ x ∈ xs, x < 256) (A : Nat) (hA : A ≤ 100000) (seed : Int) (hs0 : 0 ≤ seed) (hs1 : seed < 18446744073709551616) (w : World) (hs : Sl w 1 cv xs.length (bys xs)) (hne : NeSl cv g) (hb : SrcBox w g cv A seed) (n : Nat) (n1 : 1 ≤ n) (n2 : n ≤ 200) :
    Calls Try.prog 25 #[.pointer (some ⟨g, 0, none⟩), .int .i64 n] w (OneB g cv A w) := by
  have PK := hd (pick_any g cv xs hx A hA seed hs0 hs1 w hs hne hb n n1 n2)
  clear hs hb hne hx
  go_enter Try.func25, Try.ntmps25
  go_wp2_with fail
  go_at_call 14
  refine PK.out.mono ?_
  rintro e w1 ⟨q1, A1, sd1, hq1, rfl, b1, b2, b3, b4, b5⟩
  have HB1 := hd b1
  have HG1 := hd b5
  clear b1 b5
  go_wp2
  all_goals
    go_ret
    exact ⟨_, A1, sd1, rfl, HB1.out, b2, b3, b4, HG1.out⟩
set_option maxHeartbeats 8000000 in
set_option maxRecDepth 100000 in
theorem drawOk_any (g : Nat) (cv : Value) (xs : List Nat) (hx : ∀ x ∈ xs, x < 256) (w : World) (hs : Sl w 1 cv xs.length (bys xs)) (hne : NeSl cv g) (hb : SrcBox w g cv 0 0) (hgw : g < w.heap.size) (N : Nat) (e2 : N ≤ 9) :
    Calls Try.prog 19 #[.pointer (some ⟨g, 0, none⟩), .int .i64 N] w (JobsOut N g w) := by
  have PK := hd (fun (w' : World) (A : Nat) (sd : Int) (n : Nat) (hg : w.grownBy w' (some g)) (hA : A ≤ 1000) (h0 : 0 ≤ sd) (h1 : sd < 18446744073709551616) (hb : SrcBox w' g cv A sd) (n1 : 1 ≤ n) (n2 : n ≤ 200) =>
    pick_any g cv xs hx A (by omega) sd h0 h1 w' (sl_grownJ hs hne hg) hne hb n n1 n2)
  have ON := hd (fun (w' : World) (A : Nat) (sd : Int) (n : Nat) (hg : w.grownBy w' (some g)) (hA : A ≤ 1000) (h0 : 0 ≤ sd) (h1 : sd < 18446744073709551616) (hb : SrcBox w' g cv A sd) (n1 : 1 ≤ n) (n2 : n ≤ 200) =>
    one_any g cv xs hx A (by omega) sd h0 h1 w' (sl_grownJ hs hne hg) hne hb n n1 n2)
  have HB := hd hb
  clear hs hb hne hx
  go_enter Try.func19, Try.ntmps19
  have HO0 := hd (show (w.alloc (.cells #[] 37)).ownsRow w.heap.size 37 4 (.slice (some ⟨w.heap.size, 0, none⟩) 0 0) 0 (q4s []) by
    have ho1 := World.ownsRow_made (base := w.heap.size) (size := 4) (e := 37) w #[] 0 (Nat.le_refl _) (by unfold maxLen; omega) rfl
    simpa [q4s] using ho1)
  have HB0 := hd (sbox_below HB.out ((Below.refl _ w).alloc (Nat.le_refl _) (.cells #[] 37)))
  have HG0 := hd (below_all ((Below.refl _ w).alloc (Nat.le_refl _) (.cells #[] 37)) (some g))
  go_wp2_with fail
  go_at_call 25
  refine (ON.out _ 0 0 2 HG0.out (by omega) (by omega) (by omega) HB0.out (by omega) (by omega)).mono ?_
  rintro e w1 ⟨fr, A1, sd1, rfl, b1, b2, b3, b4, b5⟩
  have HB1 := hd b1
  have HG1 := hd (HG0.out.trans b5)
  have HO1 := hd (HO0.out.kept b5 (.inr (fun e => by have := (World.ownsRow.lt HO0.out g e).1; omega)))
  clear b1 b5 HB0 HG0 HO0 HB ON
  go_upto_region 3 with fail
  go_loopw [1, 5] (fun nn out wr => ∃ (l : List Q4) (m A : Nat) (sd : Int), nn = .int .i64 m ∧ l.length + m = N ∧ Hid (∀ q ∈ l, jobD q) ∧ A ≤ 1 + 4 * l.length ∧ 0 ≤ sd ∧ sd < 18446744073709551616 ∧ Hid (SrcBox wr g cv A sd) ∧ Hid (wr.ownsRow w.heap.size 37 4 out l.length (q4s l)) ∧ Hid (w.grownBy wr (some g))) (fun nn _ _ => (intOf nn).toNat)
  case atStart =>
    exact ⟨[], N, A1, sd1, rfl, by simp, hd (fun q hq => by cases hq), by simp; omega, b3, b4, HB1, HO1, HG1⟩
  case round =>
    clear HB1 HO1 HG1
    obtain ⟨l, m, A, sd, rfl, hl, HLk, hA, s0, s1, HB, HO, HG⟩ := hrel
    rcases Nat.eq_zero_or_pos m with hm | hm
    · subst hm
      go_wp2
      go_ret
      exact ⟨l, _, rfl, by omega, HLk.out, HO.out, HG.out⟩
    · have m1 : (0 : Int) < (m : Int) := by omega
      go_wp2_with fail
      go_at_call 14
      refine (PK.out wr A sd 9 HG.out (by omega) s0 s1 HB.out (by omega) (by omega)).mono ?_
      rintro e w1 ⟨q1, A1, sd1, hq1, rfl, b1, b2, b3, b4, b5⟩
      have HB1 := hd b1
      have HG1 := hd (HG.out.trans b5)
      have HO1 := hd (HO.out.kept b5 (.inr (fun e => by have := (World.ownsRow.lt HO.out g e).1; omega)))
      obtain ⟨tt, htt⟩ : ∃ tt : Nat, tt = 1 + q1 := ⟨_, rfl⟩
      have hw1 : IntKind.i64.wrap (1 + (q1 : Int)) = (tt : Int) := by rw [IntWalk.i64_in _ (by omega), htt]; push_cast; rfl
      have ht1 : 1 ≤ tt ∧ tt ≤ 9 := by omega
      clear b1 b5 HB HG HO htt
      go_upto_region 6 with fail
      have HR2 := hd (show SBox (w1.alloc (.cells #[.int .i64 tt, .int .i64 0, .int .i64 0, .int .i64 0] 37)) w1.heap.size #[.int .i64 tt, .int .i64 0, .int .i64 0, .int .i64 0] 37 by
        show (World.alloc _ _).heap[_]? = _
        rw [heap_alloc_get, if_pos rfl])
      have HB2 := hd (sbox_below HB1.out ((Below.refl _ _).alloc (Nat.le_refl _) (.cells #[.int .i64 tt, .int .i64 0, .int .i64 0, .int .i64 0] 37)))
      have HG2 := hd (HG1.out.trans (below_all ((Below.refl _ w1).alloc (Nat.le_refl _) (.cells #[.int .i64 tt, .int .i64 0, .int .i64 0, .int .i64 0] 37)) (some g)))
      have HO2 := hd (HO1.out.alloc (.cells #[.int .i64 tt, .int .i64 0, .int .i64 0, .int .i64 0] 37))
      have HLt := hd (World.ownsRow.lt HO1.out)
      have HRw := hd (show w.heap.size ≤ w1.heap.size from HG1.out.size)
      generalize World.alloc w1 (.cells #[.int .i64 tt, .int .i64 0, .int .i64 0, .int .i64 0] 37) = W2 at *
      generalize w1.heap.size = R at *
      clear HB1 HG1 HO1 hw1
      have hRg : R ≠ g := by have := HRw.out; omega
      cases fr
      focus
        go_wp2_with fail
        go_at_call 14
        refine (PK.out W2 A1 sd1 12 HG2.out (by omega) b3 b4 HB2.out (by omega) (by omega)).mono ?_
        rintro e w3 ⟨q2, A2, sd2, hq2, rfl, b1, b2', b3', b4', b5⟩
        have HB3 := hd b1
        have HR3 := hd (sbox_kept (show SBox W2 R _ _ from HR2.out) b5 (by simp; omega))
        have HO3 := hd (HO2.out.kept b5 (.inr (fun e => by have := (HLt.out g e).1; omega)))
        have HG3 := hd (HG2.out.trans b5)
        clear b1 b5 HB2 HR2 HO2 HG2
        obtain ⟨d0, d1, d2, d3⟩ := sbox4J HR3.out
        have df1 := sbox_free HR3.out 1
        go_upto_region 8 with fail
        have HR4 := hd (show SBox (w3.setCell ⟨R, 1, none⟩ (.int .i64 q2)) R #[.int .i64 tt, .int .i64 q2, .int .i64 0, .int .i64 0] 37 from heap_setCell_same _ R 1 _ _ _ HR3.out)
        have hs4 := grown_setCell w3 R 1 (.int .i64 q2)
        have HB4 := hd (sbox_kept (show SBox w3 g _ _ from HB3.out) hs4 (by simp; omega))
        have HO4 := hd (HO3.out.kept hs4 (.inr (fun e => by have := (HLt.out R e).2; omega)))
        have HG4 := hd (show w.grownBy (w3.setCell ⟨R, 1, none⟩ (.int .i64 q2)) (some g) from grown_overJ HG3.out hs4 HRw.out)
        generalize World.setCell w3 _ _ = W4 at *
        have hA2 : A2 ≤ A + 2 := by omega
        clear hs4 HB3 HG3 HR3 HO3 d0 d1 d2 d3 df1 b3 b4 b2 b2'
      rotate_left
      focus
        go_upto_region 8 with fail
        obtain ⟨q2, hq20⟩ : ∃ q2 : Nat, q2 = 0 := ⟨_, rfl⟩
        have HR4 := hd (show SBox W2 R #[.int .i64 tt, .int .i64 q2, .int .i64 0, .int .i64 0] 37 by rw [hq20]; exact HR2.out)
        obtain ⟨W4, hW4⟩ : ∃ W4, W4 = W2 := ⟨_, rfl⟩
        subst hW4
        obtain ⟨A2, hA2'⟩ : ∃ A2, A2 = A1 := ⟨_, rfl⟩
        subst hA2'
        obtain ⟨sd2, hsd2⟩ : ∃ sd2, sd2 = sd1 := ⟨_, rfl⟩
        subst hsd2
        have HB4 := hd HB2.out
        have HO4 := hd HO2.out
        have HG4 := hd HG2.out
        have b3' := b3
        have b4' := b4
        have hA2 : A2 ≤ A + 2 := by omega
        have hq2 : q2 < 12 := by omega
        clear hq20 HB2 HR2 HO2 HG2 b2 b3 b4
      all_goals
        go_wp2_with fail
        go_at_call 14
        refine (PK.out W4 A2 sd2 40 HG4.out (by omega) b3' b4' HB4.out (by omega) (by omega)).mono ?_
        rintro e w5 ⟨q3, A3, sd3, hq3, rfl, b1, b2, b3, b4, b5⟩
        have HB5 := hd b1
        have HR5 := hd (sbox_kept (show SBox W4 R _ _ from HR4.out) b5 (by simp; omega))
        have HO5 := hd (HO4.out.kept b5 (.inr (fun e => by have := (HLt.out g e).1; omega)))
        have HG5 := hd (HG4.out.trans b5)
        clear b1 b5 HB4 HR4 HO4 HG4
        obtain ⟨d0, d1, d2, d3⟩ := sbox4J HR5.out
        have df2 := sbox_free HR5.out 2
        go_upto_region 9 with fail
        have HR6 := hd (show SBox (w5.setCell ⟨R, 2, none⟩ (.int .i64 q3)) R #[.int .i64 tt, .int .i64 q2, .int .i64 q3, .int .i64 0] 37 from heap_setCell_same _ R 2 _ _ _ HR5.out)
        have hs6 := grown_setCell w5 R 2 (.int .i64 q3)
        have HB6 := hd (sbox_kept (show SBox w5 g _ _ from HB5.out) hs6 (by simp; omega))
        have HO6 := hd (HO5.out.kept hs6 (.inr (fun e => by have := (HLt.out R e).2; omega)))
        have HG6 := hd (show w.grownBy (w5.setCell ⟨R, 2, none⟩ (.int .i64 q3)) (some g) from grown_overJ HG5.out hs6 HRw.out)
        generalize World.setCell w5 _ _ = W6 at *
        clear hs6 HB5 HR5 HO5 HG5 d0 d1 d2 d3 df2
        go_wp2_with fail
        go_at_call 14
        refine (PK.out W6 A3 sd3 6 HG6.out (by omega) b3 b4 HB6.out (by omega) (by omega)).mono ?_
        rintro e w7 ⟨q4, A4, sd4, hq4, rfl, b1, b2', b3', b4', b5⟩
        have HB7 := hd b1
        have HR7 := hd (sbox_kept (show SBox W6 R _ _ from HR6.out) b5 (by simp; omega))
        have HO7 := hd (HO6.out.kept b5 (.inr (fun e => by have := (HLt.out g e).1; omega)))
        have HG7 := hd (HG6.out.trans b5)
        clear b1 b5 HB6 HR6 HO6 HG6
        obtain ⟨d0, d1, d2, d3⟩ := sbox4J HR7.out
        have df3 := sbox_free HR7.out 3
        go_upto_region 10 with fail
        have HR8 := hd (show SBox (w7.setCell ⟨R, 3, none⟩ (.int .i64 q4)) R #[.int .i64 tt, .int .i64 q2, .int .i64 q3, .int .i64 q4] 37 from heap_setCell_same _ R 3 _ _ _ HR7.out)
        have hs8 := grown_setCell w7 R 3 (.int .i64 q4)
        have HB8 := hd (sbox_kept (show SBox w7 g _ _ from HB7.out) hs8 (by simp; omega))
        have HO8 := hd (HO7.out.kept hs8 (.inr (fun e => by have := (HLt.out R e).2; omega)))
        have HG8 := hd (show w.grownBy (w7.setCell ⟨R, 3, none⟩ (.int .i64 q4)) (some g) from grown_overJ HG7.out hs8 HRw.out)
        generalize World.setCell w7 _ _ = W8 at *
        clear hs8 HB7 HR7 HO7 HG7 d0 d1 d2 d3 df3
        obtain ⟨k0, k1, k2, k3⟩ := sbox4J HR8.out
        go_wp2_with (at_builtin; go_must (refine wpList_app_jobD _ _ (tt : Int) (q2 : Int) (q3 : Int) (q4 : Int) rfl _ _ rfl w.heap.size l.length _ _ rfl HO8.out _ rfl rfl (by omega) HG8.out.size ?_); intro v' w9 ho9 hg9 hap)
        go_roundw
        case rel =>
          refine ⟨l ++ [⟨tt, q2, q3, q4⟩], m - 1, A4, sd4, by go_num, by simp; omega, hd ?_, by simp; omega, by omega, by omega, hd ?_, hd ?_, hd ?_⟩
          · intro q hq
            rcases List.mem_append.1 hq with h | h
            · exact HLk.out q h
            · obtain rfl := List.mem_singleton.1 h
              exact ⟨⟨by dsimp only; omega, by dsimp only; omega⟩, ⟨by dsimp only; omega, by dsimp only; omega⟩, ⟨by dsimp only; omega, by dsimp only; omega⟩, ⟨by dsimp only; omega, by dsimp only; omega⟩⟩
          · exact sbox_kept (show SBox W8 g _ _ from HB8.out) hg9 (fun e => by have := (HLt.out g e).1; omega)
          · rw [show q4s (l ++ [⟨tt, q2, q3, q4⟩]) = q4s l ++ [.int .i64 tt, .int .i64 q2, .int .i64 q3, .int .i64 q4] by simp [q4s, Q4.cells], List.length_append]
            exact ho9
          · exact grown_rowJ HG8.out hg9 (fun k e => (HLt.out k e).1)
        case measure => simp [intOf]; omega
end Go.Proofs.Ytkdjeneogclocaa
