/- The reference's draw of arcs, each ring of which has a mark: a contract. -/
import Derived.Test.YtclkgfcehmmgaaaProg
import Derived.Test.YtclkgfcehmmgaaaSrcI
import Derived.Test.YtclkgfcehmmgaaaApp
import Derived.Test.YtclkgfcehmmgaaaWords
import Derived.StillTailTactics
import Derived.Deep.CutRange
namespace Go.Proofs.Ytclkgfcehmmgaaa
open Go.RowKit Plain
set_option linter.unusedVariables false
set_option linter.unusedSimpArgs false
attribute [local go_sem ↓] Go.wp_at_zero Go.wp_at_succ
theorem info_arcD : (Try.prog.info? 37).map (fun i => (i.zero, i.size, i.bytes)) = some (some (.agg #[.int .i64 0, .int .i64 0, .int .i64 0, .int .i64 0]), 4, 32) := by kernel_rfl
theorem cell_four_arc (w : World) (x y z u0 : Value) (t : TypeId) : ∀ j u, [x, y, z, u0][j]? = some u → (w.alloc (.cells #[x, y, z, u0] t)).cell? ((⟨w.heap.size, 0, none⟩ : Addr).add j) = some u := by
  intro j u hj
  match j, hj with
  | 0, hj => simp at hj; subst hj; simp [Addr.add]
  | 1, hj => simp at hj; subst hj; simp [Addr.add]
  | 2, hj => simp at hj; subst hj; simp [Addr.add]
  | 3, hj => simp at hj; subst hj; simp [Addr.add]
theorem wpList_app_arcD {ops : Array Oper} {rest : List Oper} {o : Oper} {a : Act} {Q : Exit → Act → World → Prop} (w : World) (T : TypeId) (x0 x1 x2 x3 : Int) (hgd : o.guard = none) (s x : Operand)
    (ho : o.op = .call { callee := .builtin .append, args := #[s, x], argTypes := #[25, 25] }) (base n : Nat) (v : Value) (xs : List Value) (hs : a.eval s = v) (hown : w.ownsRow base 37 4 v n xs)
    (g : Nat) (hx : a.eval x = .slice (some ⟨g, 0, none⟩) 1 1) (hg : w.heap.size = g) (hn : n ≤ 1048576) (hbase : base ≤ w.heap.size)
    (h : ∀ v' w', w'.ownsRow base 37 4 v' (n + 1) (xs ++ [.int .i64 x0, .int .i64 x1, .int .i64 x2, .int .i64 x3]) → w.grownBy w' v.ownBlock → Apart w v v' → wpList Try.prog ops Q rest (a.put o.dst v') w') :
    wpList Try.prog ops Q (o :: rest) a (w.alloc (.cells #[.int .i64 x0, .int .i64 x1, .int .i64 x2, .int .i64 x3] T)) := by
  subst hg
  obtain ⟨i0, hi, hz0, hz1, hz2⟩ := info_parts info_arcD
  refine wpList_append_own_at _ hgd s x 25 ho base 37 i0 _ 4 32 Try.underlying25 hi hz0 hz1 hz2 rfl (by decide) v n xs hs (hown.alloc _) ⟨w.heap.size, 0, none⟩ 1 1 [.int .i64 x0, .int .i64 x1, .int .i64 x2, .int .i64 x3] hx rfl (cell_four_arc _ _ _ _ _ _) (by intro u hu; simp at hu; rcases hu with rfl | rfl | rfl | rfl <;> rfl) (by unfold maxLen; omega) (by omega) (Nat.le_trans hbase (by simp)) ?_
  intro v' w' h2 h3 _ h5
  exact h v' w' h2 ((below_all ((Below.refl _ w).alloc (Nat.le_refl _) _) _).trans h3) (apart_of (by simp) h5)
/-- a drawn arc between so many nodes: without a mark it goes up -/
def arcOk (ev : Nat) (q : Q4) : Prop := (0 ≤ q.a ∧ q.a < ev) ∧ (0 ≤ q.b ∧ q.b < ev) ∧ (0 ≤ q.c ∧ q.c ≤ 8) ∧ (0 ≤ q.d ∧ q.d ≤ 2) ∧ (q.d = 0 → q.a < q.b)
def ArcsOut (ev : Nat) (g : Nat) (w : World) (r : Ending) (w' : World) : Prop :=
  ∃ (l : List Q4) (u : Value), r = .returned u ∧ 1 ≤ l.length ∧ l.length ≤ 8 ∧ (∀ q ∈ l, arcOk ev q) ∧ w'.ownsRow w.heap.size 37 4 u l.length (q4s l) ∧ w.grownBy w' (some g)
theorem sl_grown {w w' : World} {cv : Value} {n size g : Nat} {cs : List Value} (h : Sl w size cv n cs) (hne : NeSl cv g) (hg : w.grownBy w' (some g)) : Sl w' size cv n cs := by
  obtain ⟨A, cap, rfl, hcap, hr⟩ := h
  rcases Nat.eq_zero_or_pos n with h0 | h0
  · subst h0
    exact ⟨A, cap, rfl, hcap, hr.1, hr.2.1, fun h => absurd h (Nat.lt_irrefl 0)⟩
  · exact ⟨A, cap, rfl, hcap, hr.grown hg (.inl (hne _ _ _ rfl h0))⟩
theorem sbox4 {w : World} {g : Nat} {a b c d : Value} {t : TypeId} (h : SBox w g #[a, b, c, d] t) : w.cell? ⟨g, 0, none⟩ = some a ∧ w.cell? ⟨g, 1, none⟩ = some b ∧ w.cell? ⟨g, 2, none⟩ = some c ∧ w.cell? ⟨g, 3, none⟩ = some d := ⟨sbox_cell h 0, sbox_cell h 1, sbox_cell h 2, sbox_cell h 3⟩
theorem sbox_lt {w : World} {g : Nat} {cs : Array Value} {t : TypeId} (h : SBox w g cs t) : g < w.heap.size := by
  rcases Nat.lt_or_ge g w.heap.size with h1 | h1
  · exact h1
  · rw [SBox, Array.getElem?_eq_none h1] at h; cases h
theorem grown_row {w w1 w2 : World} {g : Nat} {row : Option Nat} (h1 : w.grownBy w1 (some g)) (h2 : w1.grownBy w2 row) (hR : ∀ k, row = some k → w.heap.size ≤ k) : w.grownBy w2 (some g) :=
  ⟨h2.os.trans h1.os, h2.tape.trans h1.tape, h2.output.trans h1.output, Nat.le_trans h1.size h2.size, fun k hk hne => by
    rw [h2.block k (Nat.lt_of_lt_of_le hk h1.size) (by intro e; have := hR k e.symm; omega), h1.block k hk hne]⟩
theorem grown_over {w w1 w2 : World} {g R : Nat} (h1 : w.grownBy w1 (some g)) (h2 : w1.grownBy w2 (some R)) (hR : w.heap.size ≤ R) : w.grownBy w2 (some g) :=
  ⟨h2.os.trans h1.os, h2.tape.trans h1.tape, h2.output.trans h1.output, Nat.le_trans h1.size h2.size, fun k hk hne => by
    rw [h2.block k (Nat.lt_of_lt_of_le hk h1.size) (by intro e; cases e; omega), h1.block k hk hne]⟩
set_option maxHeartbeats 4000000 in
set_option maxRecDepth 100000 in
theorem arcsOk_any (g : Nat) (cv : Value) (xs : List Nat) (hx : ∀ x ∈ xs, x < 256) (w : World) (hs : Sl w 1 cv xs.length (bys xs)) (hne : NeSl cv g) (hb : SrcBox w g cv 0 0) (hgw : g < w.heap.size) (ev : Nat) (e1 : 1 ≤ ev) (e2 : ev ≤ 5) :
    Calls Try.prog 27 #[.pointer (some ⟨g, 0, none⟩), .int .i64 ev] w (ArcsOut ev g w) := by
  have PK := hd (fun (w' : World) (A : Nat) (sd : Int) (n : Nat) (hg : w.grownBy w' (some g)) (hA : A ≤ 1000) (h0 : 0 ≤ sd) (h1 : sd < 18446744073709551616) (hb : SrcBox w' g cv A sd) (n1 : 1 ≤ n) (n2 : n ≤ 200) =>
    pick_any g cv xs hx A (by omega) sd h0 h1 w' (sl_grown hs hne hg) hne hb n n1 n2)
  have HB := hd hb
  clear hs hb hne hx
  go_enter Try.func27, Try.ntmps27
  go_wp2_with fail
  refine (PK.out _ 0 0 8 (below_all ((Below.refl _ _).alloc (Nat.le_refl _) _) _) (by omega) (by omega) (by omega) ?_ (by omega) (by omega)).mono ?_
  · exact sbox_below HB.out ((Below.refl _ _).alloc (Nat.le_refl _) _)
  rintro e w1 ⟨q0, A0, sd0, hq0, rfl, b1, b2, b3, b4, b5⟩
  have g1 := (below_all ((Below.refl _ w).alloc (Nat.le_refl _) (.cells #[] 37)) (some g)).trans b5
  have ho1 := (World.ownsRow_made (base := w.heap.size) (size := 4) (e := 37) w #[] 0 (Nat.le_refl _) (by unfold maxLen; omega) rfl).kept b5 (.inr (by simp [Value.ownBlock]; omega))
  have HB1 := hd b1
  have HG1 := hd g1
  have HO1 := hd ho1
  have hq1' : IntKind.i64.wrap (1 + (q0 : Int)) = ((1 + q0 : Nat) : Int) := by rw [IntWalk.i64_in _ (by omega)]; push_cast; rfl
  clear b1 b5 g1 ho1
  go_wp2
  go_loopw [5, 6] (fun out nn wr => ∃ (l : List Q4) (m A : Nat) (sd : Int), nn = .int .i64 m ∧ 1 ≤ l.length + m ∧ l.length + m ≤ 8 ∧ Hid (∀ q ∈ l, arcOk ev q) ∧ A ≤ 1 + 4 * l.length ∧ 0 ≤ sd ∧ sd < 18446744073709551616 ∧ Hid (SrcBox wr g cv A sd) ∧ Hid (wr.ownsRow w.heap.size 37 4 out l.length (q4s l)) ∧ Hid (w.grownBy wr (some g))) (fun _ nn _ => (intOf nn).toNat)
  case atStart => exact ⟨[], 1 + q0, A0, sd0, by first | rfl | (rw [← hq1']; rfl) | go_num, by simp, by simp; omega, hd (fun q hq => by cases hq), by simpa using b2, b3, b4, HB1, HO1, HG1⟩
  case round =>
    clear HB HB1 HO1 HG1 b2 b3 b4 hq0 hq1'
    obtain ⟨l, m, A, sd, rfl, hl0, hl, HLk, hA, s0, s1, HB, HO, HG⟩ := hrel
    rcases Nat.eq_zero_or_pos m with hm | hm
    · subst hm
      go_wp2
      go_ret
      exact ⟨l, _, rfl, by omega, by omega, HLk.out, HO.out, HG.out⟩
    · have m1 : (0 : Int) < (m : Int) := by omega
      go_wp2_with fail
      refine (PK.out wr A sd ev HG.out (by omega) s0 s1 HB.out (by omega) (by omega)).mono ?_
      rintro e w1 ⟨q1, A1, sd1, hq1, rfl, b1, b2, b3, b4, b5⟩
      have HB1 := hd b1
      have HG1 := hd (HG.out.trans b5)
      have HO1 := hd (HO.out.kept b5 (.inr (fun e => by have := (World.ownsRow.lt HO.out g e).1; omega)))
      clear b1 b5 HB HG HO
      go_upto_region 6 with fail
      have HR2 := hd (show SBox (w1.alloc (.cells #[.int .i64 q1, .int .i64 0, .int .i64 0, .int .i64 0] 37)) w1.heap.size #[.int .i64 q1, .int .i64 0, .int .i64 0, .int .i64 0] 37 by
        show (World.alloc _ _).heap[_]? = _
        rw [heap_alloc_get, if_pos rfl])
      have HB2 := hd (sbox_below HB1.out ((Below.refl _ _).alloc (Nat.le_refl _) (.cells #[.int .i64 q1, .int .i64 0, .int .i64 0, .int .i64 0] 37)))
      have HG2 := hd (HG1.out.trans (below_all ((Below.refl _ w1).alloc (Nat.le_refl _) (.cells #[.int .i64 q1, .int .i64 0, .int .i64 0, .int .i64 0] 37)) (some g)))
      have HO2 := hd (HO1.out.alloc (.cells #[.int .i64 q1, .int .i64 0, .int .i64 0, .int .i64 0] 37))
      have HLt := hd (World.ownsRow.lt HO1.out)
      have HRw := hd (show w.heap.size ≤ w1.heap.size from HG1.out.size)
      generalize World.alloc w1 (.cells #[.int .i64 q1, .int .i64 0, .int .i64 0, .int .i64 0] 37) = W2 at *
      generalize w1.heap.size = R at *
      clear HB1 HG1 HO1
      have hRg : R ≠ g := by have := HRw.out; omega
      go_wp2_with fail
      refine (PK.out W2 A1 sd1 ev HG2.out (by omega) b3 b4 HB2.out (by omega) (by omega)).mono ?_
      rintro e w3 ⟨q2, A2, sd2, hq2, rfl, b1', b2', b3', b4', b5'⟩
      have HB3 := hd b1'
      have HG3 := hd b5'
      have HR3 := hd (sbox_kept HR2.out b5' (by simp; omega))
      obtain ⟨d0, d1, d2, d3⟩ := sbox4 HR3.out
      have df1 := sbox_free HR3.out 1
      clear b1' b5'
      go_upto_region 7 with fail
      have HR4 := hd (show SBox (w3.setCell ⟨R, 1, none⟩ (.int .i64 q2)) R #[.int .i64 q1, .int .i64 q2, .int .i64 0, .int .i64 0] 37 from heap_setCell_same _ R 1 _ _ _ HR3.out)
      have hs4 := grown_setCell w3 R 1 (.int .i64 q2)
      have HB4 := hd (sbox_kept (show SBox w3 g _ _ from HB3.out) hs4 (by simp; omega))
      have HO4 := hd ((HO2.out.kept HG3.out (.inr (fun e => by have := (HLt.out g e).1; omega))).kept hs4 (.inr (fun e => by have := (HLt.out R e).2; omega)))
      have HG4 := hd (show w.grownBy (w3.setCell ⟨R, 1, none⟩ (.int .i64 q2)) (some g) from grown_over (HG2.out.trans HG3.out) hs4 HRw.out)
      generalize World.setCell w3 _ _ = W4 at *
      clear hs4 HB3 HG3 HR3 d0 d1 d2 d3 df1 HO2 HG2 HB2 HR2
      go_wp2_with fail
      refine (PK.out W4 A2 sd2 9 HG4.out (by omega) b3' b4' HB4.out (by omega) (by omega)).mono ?_
      rintro e w5 ⟨q3, A3, sd3, hq3, rfl, b1, b2, b3, b4, b5⟩
      have HB5 := hd b1
      have HR5 := hd (sbox_kept (show SBox W4 R _ _ from HR4.out) b5 (by simp; omega))
      have HO5 := hd (HO4.out.kept b5 (.inr (fun e => by have := (HLt.out g e).1; omega)))
      have HG5 := hd (HG4.out.trans b5)
      clear b1 b5 HB4 HR4 HO4 HG4
      obtain ⟨d0, d1, d2, d3⟩ := sbox4 HR5.out
      have df2 := sbox_free HR5.out 2
      go_upto_region 8 with fail
      have HR6 := hd (show SBox (w5.setCell ⟨R, 2, none⟩ (.int .i64 q3)) R #[.int .i64 q1, .int .i64 q2, .int .i64 q3, .int .i64 0] 37 from heap_setCell_same _ R 2 _ _ _ HR5.out)
      have hs6 := grown_setCell w5 R 2 (.int .i64 q3)
      have HB6 := hd (sbox_kept (show SBox w5 g _ _ from HB5.out) hs6 (by simp; omega))
      have HO6 := hd (HO5.out.kept hs6 (.inr (fun e => by have := (HLt.out R e).2; omega)))
      have HG6 := hd (show w.grownBy (w5.setCell ⟨R, 2, none⟩ (.int .i64 q3)) (some g) from grown_over HG5.out hs6 HRw.out)
      generalize World.setCell w5 _ _ = W6 at *
      clear hs6 HB5 HR5 HO5 HG5 d0 d1 d2 d3 df2
      obtain ⟨c0, c1, c2, c3⟩ := sbox4 HR6.out
      have cf3 := sbox_free HR6.out 3
      by_cases hle : (q2 : Int) ≤ (q1 : Int)
      · go_upto_region 10 with fail
        have HR7a := hd (show SBox (W6.setCell ⟨R, 3, none⟩ (.int .i64 1)) R #[.int .i64 q1, .int .i64 q2, .int .i64 q3, .int .i64 1] 37 from heap_setCell_same _ R 3 _ _ _ HR6.out)
        have hs7 := grown_setCell W6 R 3 (.int .i64 1)
        have HB7a := hd (sbox_kept (show SBox W6 g _ _ from HB6.out) hs7 (by simp; omega))
        have HO7a := hd (HO6.out.kept hs7 (.inr (fun e => by have := (HLt.out R e).2; omega)))
        have HG7a := hd (show w.grownBy (W6.setCell ⟨R, 3, none⟩ (.int .i64 1)) (some g) from grown_over HG6.out hs7 HRw.out)
        generalize World.setCell W6 _ _ = Wa at *
        clear hs7 HB6 HR6 HO6 HG6 c0 c1 c2 c3 cf3
        obtain ⟨k0, k1, k2, k3⟩ := sbox4 HR7a.out
        go_region_with (go_at_call 45; refine (PK.out Wa.drew A3 sd3 2 (HG7a.out.trans (below_all ((Below.refl _ Wa).drew) _)) (by omega) b3 b4 HB7a.out (by omega) (by omega)).mono ?_; rintro e w7 ⟨q4, A4, sd4, hq4, rfl, b1'', b2'', b3'', b4'', b5''⟩; have HB7 := hd b1''; have HG7 := hd b5''; have HR7 := hd (sbox_kept (show SBox Wa.drew R _ _ from HR7a.out) b5'' (by simp; omega)); obtain ⟨d0, d1, d2, d3⟩ := sbox4 HR7.out; have df3 := sbox_free HR7.out 3; clear b1'' b5'')
        all_goals
          have h34 : IntKind.i64.wrap ((1 : Int) + (q4 : Int)) = ((1 : Int) + (q4 : Int)) := IntWalk.i64_in _ (by omega)
          try rw [h34]
          have HR8 := hd (show SBox (w7.setCell ⟨R, 3, none⟩ (.int .i64 (1 + (q4 : Int)))) R #[.int .i64 q1, .int .i64 q2, .int .i64 q3, .int .i64 (1 + (q4 : Int))] 37 from heap_setCell_same _ R 3 _ _ _ HR7.out)
          have hs8 := grown_setCell w7 R 3 (.int .i64 (1 + (q4 : Int)))
          have HB8 := hd (sbox_kept (show SBox w7 g _ _ from HB7.out) hs8 (by simp; omega))
          have HO8 := hd (((HO7a.out.kept (below_all ((Below.refl _ Wa).drew) (some g)) (.inr (fun e => by have := (HLt.out g e).1; omega))).kept HG7.out (.inr (fun e => by have := (HLt.out g e).1; omega))).kept hs8 (.inr (fun e => by have := (HLt.out R e).2; omega)))
          have HG8 := hd (show w.grownBy (w7.setCell ⟨R, 3, none⟩ (.int .i64 (1 + (q4 : Int)))) (some g) from grown_over (HG7a.out.trans ((below_all ((Below.refl _ Wa).drew) (some g)).trans HG7.out)) hs8 HRw.out)
          generalize World.setCell w7 _ _ = W8 at *
          clear hs8 HB7 HR7 HG7 d0 d1 d2 d3 df3 HO7a HG7a HB7a HR7a k0 k1 k2 k3 h34
          obtain ⟨k0, k1, k2, k3⟩ := sbox4 HR8.out
          go_wp2_with (at_builtin; go_must (refine wpList_app_arcD _ _ (q1 : Int) (q2 : Int) (q3 : Int) (1 + (q4 : Int)) rfl _ _ rfl w.heap.size l.length _ _ rfl HO8.out _ rfl rfl (by omega) HG8.out.size ?_); intro v' w9 ho9 hg9 hap)
          go_roundw
          case rel =>
            refine ⟨l ++ [⟨q1, q2, q3, (1 + (q4 : Int))⟩], m - 1, A4, sd4, by go_num, by simp; omega, by simp; omega, hd ?_, by simp; omega, by omega, by omega, hd ?_, hd ?_, hd ?_⟩
            · intro q hq
              rcases List.mem_append.1 hq with h | h
              · exact HLk.out q h
              · obtain rfl := List.mem_singleton.1 h
                exact ⟨⟨by dsimp only; omega, by dsimp only; omega⟩, ⟨by dsimp only; omega, by dsimp only; omega⟩, ⟨by dsimp only; omega, by dsimp only; omega⟩, ⟨by dsimp only; omega, by dsimp only; omega⟩, by dsimp only; omega⟩
            · exact sbox_kept (show SBox W8 g _ _ from HB8.out) hg9 (fun e => by have := (HLt.out g e).1; omega)
            · rw [show q4s (l ++ [⟨q1, q2, q3, (1 + (q4 : Int))⟩]) = q4s l ++ [.int .i64 q1, .int .i64 q2, .int .i64 q3, .int .i64 (1 + (q4 : Int))] by simp [q4s, Q4.cells], List.length_append]
              exact ho9
            · exact grown_row HG8.out hg9 (fun k e => (HLt.out k e).1)
          case measure => simp [intOf]; omega
      · go_upto_region 10 with fail
        clear c0 c1 c2 c3 cf3
        obtain ⟨k0, k1, k2, k3⟩ := sbox4 HR6.out
        go_region_with (go_at_call 45; refine (PK.out W6.drew A3 sd3 2 (HG6.out.trans (below_all ((Below.refl _ W6).drew) _)) (by omega) b3 b4 HB6.out (by omega) (by omega)).mono ?_; rintro e w7 ⟨q4, A4, sd4, hq4, rfl, b1'', b2'', b3'', b4'', b5''⟩; have HB7 := hd b1''; have HG7 := hd b5''; have HR7 := hd (sbox_kept (show SBox W6.drew R _ _ from HR6.out) b5'' (by simp; omega)); obtain ⟨d0, d1, d2, d3⟩ := sbox4 HR7.out; have df3 := sbox_free HR7.out 3; clear b1'' b5'')
        all_goals
          have h34 : IntKind.i64.wrap (q4 : Int) = (q4 : Int) := IntWalk.i64_in _ (by omega)
          try rw [Int.zero_add]
          try rw [h34]
          have HR8 := hd (show SBox (w7.setCell ⟨R, 3, none⟩ (.int .i64 (q4 : Int))) R #[.int .i64 q1, .int .i64 q2, .int .i64 q3, .int .i64 (q4 : Int)] 37 from heap_setCell_same _ R 3 _ _ _ HR7.out)
          have hs8 := grown_setCell w7 R 3 (.int .i64 (q4 : Int))
          have HB8 := hd (sbox_kept (show SBox w7 g _ _ from HB7.out) hs8 (by simp; omega))
          have HO8 := hd (((HO6.out.kept (below_all ((Below.refl _ W6).drew) (some g)) (.inr (fun e => by have := (HLt.out g e).1; omega))).kept HG7.out (.inr (fun e => by have := (HLt.out g e).1; omega))).kept hs8 (.inr (fun e => by have := (HLt.out R e).2; omega)))
          have HG8 := hd (show w.grownBy (w7.setCell ⟨R, 3, none⟩ (.int .i64 (q4 : Int))) (some g) from grown_over (HG6.out.trans ((below_all ((Below.refl _ W6).drew) (some g)).trans HG7.out)) hs8 HRw.out)
          generalize World.setCell w7 _ _ = W8 at *
          clear hs8 HB7 HR7 HG7 d0 d1 d2 d3 df3 HO6 HG6 HB6 HR6 k0 k1 k2 k3 h34
          obtain ⟨k0, k1, k2, k3⟩ := sbox4 HR8.out
          go_wp2_with (at_builtin; go_must (refine wpList_app_arcD _ _ (q1 : Int) (q2 : Int) (q3 : Int) (q4 : Int) rfl _ _ rfl w.heap.size l.length _ _ rfl HO8.out _ rfl rfl (by omega) HG8.out.size ?_); intro v' w9 ho9 hg9 hap)
          go_roundw
          case rel =>
            refine ⟨l ++ [⟨q1, q2, q3, (q4 : Int)⟩], m - 1, A4, sd4, by go_num, by simp; omega, by simp; omega, hd ?_, by simp; omega, by omega, by omega, hd ?_, hd ?_, hd ?_⟩
            · intro q hq
              rcases List.mem_append.1 hq with h | h
              · exact HLk.out q h
              · obtain rfl := List.mem_singleton.1 h
                exact ⟨⟨by dsimp only; omega, by dsimp only; omega⟩, ⟨by dsimp only; omega, by dsimp only; omega⟩, ⟨by dsimp only; omega, by dsimp only; omega⟩, ⟨by dsimp only; omega, by dsimp only; omega⟩, by dsimp only; omega⟩
            · exact sbox_kept (show SBox W8 g _ _ from HB8.out) hg9 (fun e => by have := (HLt.out g e).1; omega)
            · rw [show q4s (l ++ [⟨q1, q2, q3, (q4 : Int)⟩]) = q4s l ++ [.int .i64 q1, .int .i64 q2, .int .i64 q3, .int .i64 (q4 : Int)] by simp [q4s, Q4.cells], List.length_append]
              exact ho9
            · exact grown_row HG8.out hg9 (fun k e => (HLt.out k e).1)
          case measure => simp [intOf]; omega
def ArcsB (ev : Nat) (w : World) (r : Ending) (w' : World) : Prop :=
  ∃ (l : List Q4) (u : Value), r = .returned u ∧ 1 ≤ l.length ∧ l.length ≤ 8 ∧ (∀ q ∈ l, arcOk ev q) ∧ w'.ownsRow w.heap.size 37 4 u l.length (q4s l) ∧ Below w.heap.size w w'
set_option maxHeartbeats 1000000 in
theorem B10Arcs_any (cv : Value) (xs : List Nat) (hx : ∀ x ∈ xs, x < 256) (w : World) (hs : Sl w 1 cv xs.length (bys xs)) (ev : Nat) (e1 : 1 ≤ ev) (e2 : ev ≤ 5) :
    Calls Try.prog 7 #[cv, .int .i64 ev] w (ArcsB ev w) := by
  have HSL := hd hs
  obtain ⟨A, cap, rfl, hcap, hr⟩ := hs
  have HF := hd (l00From_any A xs.length cap w)
  have hne : NeSl (.slice A xs.length cap) w.heap.size := by
    intro A' n' c' e h0 e2
    cases e
    obtain ⟨b, off, rfl, hc⟩ := hr.2.2 h0
    have hc0 := hc 0 (.int .u8 (xs[0] : Int)) (by simp [bys, List.getElem?_eq_getElem h0])
    have hlt : b < w.heap.size := block_lt_of_cell hc0
    simp only [Option.map_some, Option.some.injEq] at e2
    omega
  clear hr
  go_enter Try.func7, Try.ntmps7
  go_wp2_with fail
  refine HF.out.mono ?_
  rintro e w1 ⟨rfl, hb, hB⟩
  have HR := hd (arcsOk_any w.heap.size (.slice A xs.length cap) xs hx w1 (HSL.out.below hB) hne hb (sbox_lt hb) ev e1 e2)
  have HB := hd hB
  clear hb hB
  go_wp2_with fail
  refine HR.out.mono ?_
  rintro e w2 ⟨l, u, rfl, h0, h1, h2, h3, h4⟩
  have H3 := hd h3
  have H4 := hd h4
  clear h3 h4
  go_wp2
  go_ret
  exact ⟨l, u, rfl, h0, h1, h2, own_mono H3.out HB.out.size, below_row H4.out HB.out (fun k e => by cases e; exact Nat.le_refl _)⟩
end Go.Proofs.Ytclkgfcehmmgaaa
