/- Rises along arcs, the program's side. -/
import Derived.Test.YtclkgfcehmmgaaaProg
import Derived.Test.YtclkgfcehmmgaaaArcs
import Derived.Test.YtclkgfcehmmgaaaRep
import Derived.Test.YtclkgfcehmmgaaaRelT
import Derived.Test.YtclkgfcehmmgaaaRingW
import Derived.Test.YtclkgfcehmmgaaaStoreOwn
import Derived.Test.YtclkgfcehmmgaaaStoreBox
import Derived.Deep.RegionWith
namespace Go.Proofs.Ytclkgfcehmmgaaa
open Go.RowKit Plain
set_option linter.unusedVariables false
set_option linter.unusedSimpArgs false
attribute [local go_sem ↓] Go.wp_at_zero Go.wp_at_succ

/-- the arcs with what they rise -/
def asQ (lg q : Int) (l : List Q4) : List ArcT := l.map fun a => (a.a.toNat, a.b.toNat, q * a.c - lg * a.d)
theorem asQ_len (lg q : Int) (l : List Q4) : (asQ lg q l).length = l.length := by simp [asQ]
theorem arcB_iff {ev : Int} {a b c d : Int} : arcB ev ⟨a, b, c, d⟩ = true ↔ (0 ≤ a ∧ a ≤ ev - 1) ∧ (0 ≤ b ∧ b ≤ ev - 1) ∧ (0 ≤ c ∧ c ≤ 1000) ∧ (0 ≤ d ∧ d ≤ 10) := by
  simp [arcB, inR]
theorem rise_bd {c d lg q : Int} (c0 : 0 ≤ c) (c1 : c ≤ 1000) (d0 : 0 ≤ d) (d1 : d ≤ 10) (l0 : -1000000 ≤ lg) (l1 : lg ≤ 1000000) (q0 : 0 ≤ q) (q1 : q ≤ 1000) : -11000000 ≤ q * c - lg * d ∧ q * c - lg * d ≤ 11000000 := by
  have m1 : 0 ≤ q * c := Int.mul_nonneg q0 c0
  have m2 : q * c ≤ 1000 * 1000 := Int.mul_le_mul q1 c1 c0 (by omega)
  have m3 : lg * d ≤ 1000000 * d := Int.mul_le_mul_of_nonneg_right l1 d0
  have m4 : -1000000 * d ≤ lg * d := Int.mul_le_mul_of_nonneg_right l0 d0
  omega
/-- element k of valid arcs -/
theorem asQ_get {n : Nat} {lg q : Int} {l : List Q4} (h : ∀ a ∈ l, arcB (n : Int) a = true) (l0 : -1000000 ≤ lg) (l1 : lg ≤ 1000000) (q0 : 0 ≤ q) (q1 : q ≤ 1000) {k : Nat} (hk : k < l.length) :
    ∃ (x y : Nat) (c d : Int), l[k]? = some ⟨x, y, c, d⟩ ∧ (asQ lg q l)[k]? = some (x, y, q * c - lg * d) ∧ x < n ∧ y < n ∧ (0 ≤ c ∧ c ≤ 1000) ∧ (0 ≤ d ∧ d ≤ 10) ∧ -11000000 ≤ q * c - lg * d ∧ q * c - lg * d ≤ 11000000 := by
  have e := List.getElem?_eq_getElem hk
  have ha := h _ (List.getElem_mem hk)
  generalize l[k] = z at *
  obtain ⟨a, b, c, d⟩ := z
  obtain ⟨⟨a0, a1⟩, ⟨b0, b1⟩, ⟨c0, c1⟩, ⟨d0, d1⟩⟩ := arcB_iff.1 ha
  have r := rise_bd c0 c1 d0 d1 l0 l1 q0 q1
  refine ⟨a.toNat, b.toNat, c, d, ?_, ?_, by omega, by omega, ⟨c0, c1⟩, ⟨d0, d1⟩, r.1, r.2⟩
  · rw [e, show ((a.toNat : Nat) : Int) = a by omega, show ((b.toNat : Nat) : Int) = b by omega]
  · rw [asQ, List.getElem?_map, e]; rfl
theorem asQ_in {n : Nat} {lg q : Int} {l : List Q4} (h : ∀ a ∈ l, arcB (n : Int) a = true) : ∀ a ∈ asQ lg q l, a.1 < n ∧ a.2.1 < n := by
  intro a ha
  obtain ⟨z, hz, rfl⟩ := List.mem_map.1 ha
  have := h z hz
  obtain ⟨a, b, c, d⟩ := z
  obtain ⟨⟨a0, a1⟩, ⟨b0, b1⟩, _⟩ := arcB_iff.1 this
  exact ⟨by show a.toNat < n; omega, by show b.toNat < n; omega⟩
theorem asQ_le {n : Nat} {lg q : Int} {l : List Q4} (h : ∀ a ∈ l, arcB (n : Int) a = true) (l0 : -1000000 ≤ lg) (l1 : lg ≤ 1000000) (q0 : 0 ≤ q) (q1 : q ≤ 1000) : ∀ a ∈ asQ lg q l, a.2.2 ≤ 11000000 := by
  intro a ha
  obtain ⟨z, hz, rfl⟩ := List.mem_map.1 ha
  have := h z hz
  obtain ⟨a, b, c, d⟩ := z
  obtain ⟨_, _, ⟨c0, c1⟩, ⟨d0, d1⟩⟩ := arcB_iff.1 this
  exact (rise_bd c0 c1 d0 d1 l0 l1 q0 q1).2
/-- all times while up to 13 rounds run, over up to 32 arcs -/
theorem part_bd {n : Nat} {rz : List ArcT} (hR : ∀ a ∈ rz, a.2.2 ≤ 11000000) (hl : rz.length ≤ 32) (r j : Nat) (hr : r ≤ 13) (hj : j ≤ rz.length) (v : Nat) : 0 ≤ (partB rz r (tmB rz n r) j).t.getD v 0 ∧ (partB rz r (tmB rz n r) j).t.getD v 0 ≤ 5000000000 := by
  have h := partB_bd (r := r) (by omega) hR (tmB_bd (n := n) (by omega) hR r) j hj v
  refine ⟨h.1, Int.le_trans h.2 ?_⟩
  have h1 : (rz.length : Int) * 11000000 ≤ 32 * 11000000 := by omega
  have h2 : (r : Int) * ((rz.length : Int) * 11000000) ≤ 13 * (32 * 11000000) := Int.mul_le_mul (by omega) h1 (by omega) (by omega)
  omega

/-- the two rows of a state -/
def TwoRow (w : World) (B : Nat) (g : Nat) (cu : Value) (n : Nat) (S : BackS) : Prop :=
  w.ownsRow B 2 1 (.slice (some ⟨g, 0, none⟩) n n) n (S.t.map vi) ∧ w.ownsRow B 2 1 cu n (S.c.map vi) ∧ Dj (.slice (some ⟨g, 0, none⟩) n n) cu
theorem two_below {w w' : World} {B g n : Nat} {cu : Value} {S : BackS} (h : TwoRow w B g cu n S) (hb : Below w.heap.size w w') : TwoRow w' B g cu n S := ⟨own_below h.1 hb, own_below h.2.1 hb, h.2.2⟩
def lenV : Value → Nat
  | .slice _ n _ => n
  | _ => 0
theorem infoArcA : (Try.prog.info? 37).map (fun i => (i.zero, i.size, i.bytes)) = some (some (.agg #[.int .i64 0, .int .i64 0, .int .i64 0, .int .i64 0]), 4, 32) := by kernel_rfl
theorem cell_four_new (w : World) (x y z u0 : Value) (t : TypeId) : ∀ j u, [x, y, z, u0][j]? = some u → (w.alloc (.cells #[x, y, z, u0] t)).cell? ((⟨w.heap.size, 0, none⟩ : Addr).add j) = some u := by
  intro j u hj
  match j, hj with
  | 0, hj => simp at hj; subst hj; simp [Addr.add]
  | 1, hj => simp at hj; subst hj; simp [Addr.add]
  | 2, hj => simp at hj; subst hj; simp [Addr.add]
  | 3, hj => simp at hj; subst hj; simp [Addr.add]
theorem wpList_app_arc {ops : Array Oper} {rest : List Oper} {o : Oper} {a : Act} {Q : Exit → Act → World → Prop} (w : World) (T : TypeId) (x0 x1 x2 x3 : Int) (hgd : o.guard = none) (s x : Operand)
    (ho : o.op = .call { callee := .builtin .append, args := #[s, x], argTypes := #[25, 25] }) (base n : Nat) (v : Value) (xs : List Value) (hs : a.eval s = v) (hown : w.ownsRow base 37 4 v n xs)
    (g : Nat) (hx : a.eval x = .slice (some ⟨g, 0, none⟩) 1 1) (hg : w.heap.size = g) (hn : n ≤ 1048576) (hbase : base ≤ w.heap.size)
    (h : ∀ v' w', w'.ownsRow base 37 4 v' (n + 1) (xs ++ [.int .i64 x0, .int .i64 x1, .int .i64 x2, .int .i64 x3]) → w.grownBy w' v.ownBlock → Apart w v v' → wpList Try.prog ops Q rest (a.put o.dst v') w') :
    wpList Try.prog ops Q (o :: rest) a (w.alloc (.cells #[.int .i64 x0, .int .i64 x1, .int .i64 x2, .int .i64 x3] T)) := by
  subst hg
  obtain ⟨i0, hi, hz0, hz1, hz2⟩ := info_parts infoArcA
  refine wpList_append_own_at _ hgd s x 25 ho base 37 i0 _ 4 32 Try.underlying25 hi hz0 hz1 hz2 rfl (by decide) v n xs hs (hown.alloc _) ⟨w.heap.size, 0, none⟩ 1 1 [.int .i64 x0, .int .i64 x1, .int .i64 x2, .int .i64 x3] hx rfl (cell_four_new _ _ _ _ _ _) (by intro u hu; simp at hu; rcases hu with rfl | rfl | rfl | rfl <;> rfl) (by unfold maxLen; omega) (by omega) (Nat.le_trans hbase (by simp)) ?_
  intro v' w' h2 h3 _ h5
  exact h v' w' h2 ((below_all ((Below.refl _ w).alloc (Nat.le_refl _) _) _).trans h3) (apart_of (by simp) h5)
theorem keep4t {B1 B2 o0 o1 o2 o3 p1 p2 : Nat} {v0 v1 v2 v3 u1 u2 : Value} {W w w' : World} (h : Below w.heap.size w w')
    (hH : (w.cell? ⟨B1, o0, none⟩ = some v0 ∧ w.cell? ⟨B1, o1, none⟩ = some v1 ∧ w.cell? ⟨B1, o2, none⟩ = some v2 ∧ w.cell? ⟨B1, o3, none⟩ = some v3) ∧ (w.cell? ⟨B2, p1, none⟩ = some u1 ∧ w.cell? ⟨B2, p2, none⟩ = some u2) ∧ Below W.heap.size W w) :
    (w'.cell? ⟨B1, o0, none⟩ = some v0 ∧ w'.cell? ⟨B1, o1, none⟩ = some v1 ∧ w'.cell? ⟨B1, o2, none⟩ = some v2 ∧ w'.cell? ⟨B1, o3, none⟩ = some v3) ∧ (w'.cell? ⟨B2, p1, none⟩ = some u1 ∧ w'.cell? ⟨B2, p2, none⟩ = some u2) ∧ Below W.heap.size W w' := by
  obtain ⟨⟨a1, a2, a3, a4⟩, ⟨b1, b2⟩, k0⟩ := hH
  exact ⟨⟨below_at h a1, below_at h a2, below_at h a3, below_at h a4⟩, ⟨below_at h b1, below_at h b2⟩, below_tr h k0⟩
set_option maxHeartbeats 4000000 in
set_option maxRecDepth 100000 in
theorem relax_any (n : Nat) (v : Value) (l : List Q4) (lg q : Int) (w : World) (n1 : 1 ≤ n) (n2 : n ≤ 12) (hs : Sl w 4 v l.length (q4s l)) (hl : l.length ≤ 32) (ha : ∀ a ∈ l, arcB (n : Int) a = true) (l0 : -1000000 ≤ lg) (l1 : lg ≤ 1000000) (q0 : 0 ≤ q) (q1 : q ≤ 1000) :
    Calls Try.prog 32 #[.int .i64 n, v, .int .i64 lg, .int .i64 q] w fun e w' => Below w.heap.size w w' ∧
      ((fixA (asQ lg q l) n = true ∧ ∃ u, e = .returned (.tuple #[u, .slice none 0 0]) ∧ w'.ownsRow w.heap.size 2 1 u n ((tmA (asQ lg q l) n (n - 1)).map vi)) ∨
       (fixA (asQ lg q l) n = false ∧ ∃ u g m c, e = .returned (.tuple #[u, .slice (some ⟨g, 0, none⟩) m c]) ∧ ∃ xz, RingQ l xz ∧ 0 < q * sumQ Q4.c xz - lg * sumQ Q4.d xz ∧ m = xz.length ∧ w'.ownsRow w.heap.size 37 4 (.slice (some ⟨g, 0, none⟩) m c) m (q4s xz))) := by
  have AG := hd (fun k hk => asQ_get (lg := lg) (q := q) ha l0 l1 q0 q1 (k := k) hk)
  have AV := hd (asQ_in (lg := lg) (q := q) ha)
  have AB := hd (fun r j hr hj v => part_bd (n := n) (asQ_le ha l0 l1 q0 q1) (by rw [asQ_len]; exact hl) r j hr hj v)
  have AL := hd (asQ_len lg q l)
  have WT := hd (fun a b c d w' c0 c1 d0 d1 => weight_any a b c d lg q w' c0 c1 d0 d1 l0 l1 q0 q1)
  obtain ⟨A, cap, rfl, hcap, hr⟩ := hs
  have hm0 := hr.2.1
  unfold maxLen at hm0
  have HR := hd hr
  obtain ⟨rz, has⟩ : ∃ rz, rz = asQ lg q l := ⟨_, rfl⟩
  rw [← has] at AG AV AB AL ⊢
  obtain ⟨N, hN⟩ : ∃ N, N = l.length := ⟨_, rfl⟩
  rw [← hN] at AL hl hcap hm0 HR ⊢
  have HN := hd hN
  have WR := hd (fun (v : Nat) (hvn : v < n) (hm : (tmB rz n n).m.getD v 0 = n) (d : Nat) (hd1 : 1 ≤ d) (hd2 : d ≤ n) hc => way_ring (l := l) (lg := lg) (q := q) has n1 n2 (Nat.le_refl n) AV.out hvn hm hd1 hd2 hc)
  clear has ha hr hN
  have NN := hd (fun w => none_any n n1 (by omega) w)
  go_enter Try.func32, Try.ntmps32
  go_wp2_with (first
    | (at_make; go_must (refine wpList_make_int _ rfl _ rfl _ _ n rfl rfl (by omega) ?_); intro w1 ho1 hb1)
    | (go_at_call 50; refine (NN.out _).mono ?_; rintro e w2 ⟨cu, rfl, ho2, hb2⟩))
  have hT0 : TwoRow w2 w.heap.size w.heap.size cu n (tmB rz n 0) := ⟨by have := own_below ho1 hb2; simpa [tmB, vi] using this, by have := own_mono ho2 hb1.size; simpa [tmB, vi] using this, dj_new ho1 ho2⟩
  have hb0 : Below w.heap.size w w2 := below_tr hb2 hb1
  obtain ⟨A2, cap2, rfl, hcap2, _, hA2⟩ := own_rd ho2 (by unfold maxLen; omega)
  obtain ⟨g2, rfl, hg21, hg22⟩ : ∃ g, A2 = some ⟨g, 0, none⟩ ∧ w1.heap.size ≤ g ∧ g < w2.heap.size := by
    rcases hA2 with ⟨_, h⟩ | h
    · omega
    · exact h
  clear ho1 hb1 ho2 hb2 hA2
  go_loopw [12, 24] (fun ch ix wr => ∃ r : Nat, r ≤ n ∧ ix = .int .i64 r ∧ (∃ c : Int, ch = .int .i64 c ∧ Hid (0 < r → ∃ v : Nat, v < n ∧ c = v ∧ (tmB rz n r).m.getD v 0 = r ∧ (n ≤ r → fixA rz n = false))) ∧ TwoRow wr w.heap.size w.heap.size (.slice (some ⟨g2, 0, none⟩) n cap2) n (tmB rz n r) ∧ Below w.heap.size w wr) (fun _ ix _ => n - (intOf ix).toNat)
  case atStart => exact ⟨0, by omega, rfl, ⟨-1, rfl, hd (fun h => absurd h (Nat.lt_irrefl 0))⟩, hT0, hb0⟩
  case round =>
    clear hT0 hb0
    obtain ⟨wo, hwo⟩ : ∃ wo : World, wo = wr := ⟨_, rfl⟩
    subst hwo
    obtain ⟨r, hr, rfl, ⟨c, rfl, hch⟩, hT, hb⟩ := hrel
    have HT := hd hT; have HB := hd hb
    clear hT hb
    by_cases hlt : r < n
    · clear hch
      go_wp2
      go_loopw [12, 28] (fun ch ix wr => ∃ j : Nat, j ≤ N ∧ ix = .int .i64 j ∧ ch = .int .i64 (chB rz r (tmB rz n r) j) ∧ TwoRow wr w.heap.size w.heap.size (.slice (some ⟨g2, 0, none⟩) n cap2) n (partB rz r (tmB rz n r) j) ∧ Below w.heap.size w wr) (fun _ ix _ => N - (intOf ix).toNat)
      case atStart => exact ⟨0, by omega, rfl, rfl, HT.out, HB.out⟩
      case round =>
        clear HT HB
        obtain ⟨j, hj, rfl, rfl, hT, hb⟩ := hrel
        by_cases hjt : j < N
        · obtain ⟨x, y, qc, qd, hq, hz, hx, hy, ⟨c0, c1⟩, ⟨d0, d1⟩, ri0, ri1⟩ := AG.out j (by rw [← HN.out]; exact hjt)
          have B1 := AB.out r j (by omega) (by rw [AL.out]; omega)
          obtain ⟨S, hS⟩ : ∃ S, S = partB rz r (tmB rz n r) j := ⟨_, rfl⟩
          have UP := hd (fun h => partB_up (r := r) (S := tmB rz n r) hz h)
          have NO := hd (fun h => partB_no (r := r) (S := tmB rz n r) hz h)
          rw [← hS] at hT B1 UP NO
          simp only at UP NO
          obtain ⟨tx, htx⟩ : ∃ tx, tx = S.t.getD x 0 := ⟨_, rfl⟩
          obtain ⟨ty, hty⟩ : ∃ ty, ty = S.t.getD y 0 := ⟨_, rfl⟩
          have bx := B1 x
          have b_y := B1 y
          rw [← htx] at bx UP NO
          rw [← hty] at b_y UP NO
          obtain ⟨ri, hri⟩ : ∃ ri, ri = q * qc - lg * qd := ⟨_, rfl⟩
          have W := WT.out x y qc qd
          rw [← hri] at ri0 ri1 UP NO
          simp only [← hri] at W
          have HW := hd (fun w' => W w' c0 c1 d0 d1)
          have HT := hd hT
          have HB := hd hb
          have hT1 := hT.1
          have kx := (own_rd hT1 (by unfold maxLen; omega))
          have cx : wr.cell? ⟨w.heap.size, x, none⟩ = some (.int .i64 tx) := by
            rw [hT1.cellAt x (by omega), List.getElem?_map]
            have hl := hT1.1
            simp at hl
            rw [List.getElem?_eq_getElem (by omega), htx, List.getD_eq_getElem?_getD, List.getElem?_eq_getElem (by omega)]; rfl
          have cy : wr.cell? ⟨w.heap.size, y, none⟩ = some (.int .i64 ty) := by
            rw [hT1.cellAt y (by omega), List.getElem?_map]
            have hl := hT1.1
            simp at hl
            rw [List.getElem?_eq_getElem (by omega), hty, List.getD_eq_getElem?_getD, List.getElem?_eq_getElem (by omega)]; rfl
          obtain ⟨bb, off, qa', qb', qc', qd', rfl, hq', e0, e1, e2, e3⟩ := (HR.out.below hb).q4 hjt
          have he := Option.some.inj (hq'.out.symm.trans hq)
          simp only [Q4.mk.injEq] at he
          obtain ⟨rfl, rfl, rfl, rfl⟩ := he
          have gsz : w.heap.size < wr.heap.size := block_lt_of_cell cx
          have g2w := (World.ownsRow.lt hT.2.1 g2 rfl)
          have g2ne : g2 ≠ w.heap.size := fun e => hT.2.2 _ rfl (by rw [e]; rfl)
          have i1 : (0 : Int) ≤ (j : Int) := by omega
          have i2 : (j : Int) < (N : Int) := by omega
          have i3 : (0 : Int) ≤ (x : Int) := by omega
          have i4 : (x : Int) < (n : Int) := by omega
          have i5 : (0 : Int) ≤ (y : Int) := by omega
          have i6 : (y : Int) < (n : Int) := by omega
          clear hT hb hT1 kx hq hz hq' W B1 htx hty hri c0 c1 d0 d1
          go_wp2
          obtain ⟨W, hW⟩ : ∃ W, W = wr.alloc (.cells #[.int .i64 x, .int .i64 y, .int .i64 qc', .int .i64 qd'] 37) := ⟨_, rfl⟩
          rw [← hW]
          have k0 : W.cell? ⟨wr.heap.size, 0, none⟩ = some (.int .i64 x) := by rw [hW]; exact (World.cell?_alloc_new ..).trans rfl
          have k1 : W.cell? ⟨wr.heap.size, 1, none⟩ = some (.int .i64 y) := by rw [hW]; exact (World.cell?_alloc_new ..).trans rfl
          have k2 : W.cell? ⟨wr.heap.size, 2, none⟩ = some (.int .i64 qc') := by rw [hW]; exact (World.cell?_alloc_new ..).trans rfl
          have k3 : W.cell? ⟨wr.heap.size, 3, none⟩ = some (.int .i64 qd') := by rw [hW]; exact (World.cell?_alloc_new ..).trans rfl
          have hbW : Below wr.heap.size wr W := by rw [hW]; exact (Below.refl _ _).alloc (Nat.le_refl _) _
          replace cx := below_at hbW cx
          replace cy := below_at hbW cy
          have HBW := hd hbW
          clear hW hbW e0 e1 e2 e3
          obtain ⟨gb, hgb⟩ : ∃ gb, gb = wr.heap.size := ⟨_, rfl⟩
          rw [← hgb] at k0 k1 k2 k3 gsz g2w ⊢
          have HGB := hd hgb
          clear hgb
          have hbw0 : Below W.heap.size W W.drew := (Below.refl _ _).drew
          go_region_held3 (fun w' => (w'.cell? ⟨gb, 0, none⟩ = some (.int .i64 x) ∧ w'.cell? ⟨gb, 1, none⟩ = some (.int .i64 y) ∧ w'.cell? ⟨gb, 2, none⟩ = some (.int .i64 qc') ∧ w'.cell? ⟨gb, 3, none⟩ = some (.int .i64 qd')) ∧ (w'.cell? ⟨w.heap.size, x, none⟩ = some (.int .i64 tx) ∧ w'.cell? ⟨w.heap.size, y, none⟩ = some (.int .i64 ty)) ∧ Below W.heap.size W w')
            (first | go_keep | exact keep4t h (by assumption))
            (first | (go_at_call 51; refine (HW.out _).mono ?_; rintro e w' ⟨rfl, h⟩))
          obtain ⟨⟨z0, z1, z2, z3⟩, ⟨zx, zy⟩, hb5⟩ := ‹(_ ∧ _ ∧ _ ∧ _) ∧ (_ ∧ _) ∧ Below W.heap.size W _›
          have hb6 := below_tr hb5 HBW.out
          have HT6 := hd (two_below HT.out hb6)
          have HB6 := hd hb6
          clear k0 k1 k2 k3 cx cy hbw0 hb5 hb6
          by_cases hup : ty < tx + ri
          · have HUP := hd (UP.out hup)
            have HWV := hd (show Value.int .i64 (IntKind.i64.wrap (tx + ri)) = vi (tx + ri) by rw [IntWalk.i64_in _ (by omega)]; rfl)
            have t1 := HT6.out.1
            have t2 := HT6.out.2.1
            have t3 := HT6.out.2.2
            go_wp2_with (first
              | ((with_reducible refine wpList_store_own _ w.heap.size 2 1 n n w.heap.size _ t1 size_int y (vi (tx + ri)) ?_ ?_ ?_ ?_ ?_); exact rfl; (first | exact rfl | exact HWV.out); exact rfl; omega; intro w6 ho6 hg6; have hc6 := own_kept t2 hg6 (dj_symm t3); have y1 := hg6.cell z1 (by intro e; have := Option.some.inj e; (try simp only at this); omega))
              | ((with_reducible refine wpList_store_own _ w.heap.size 2 1 n cap2 g2 _ hc6 size_int y (vi (j : Int)) ?_ ?_ ?_ ?_ ?_); exact rfl; exact rfl; exact rfl; omega; intro w7 ho7 hg7; have y2 := hg7.cell y1 (by intro e; have := Option.some.inj e; (try simp only at this); omega)))
            go_roundw
            case rel =>
              refine ⟨j + 1, by omega, by go_num, by rw [HUP.out.2.2], ⟨?_, ?_, HT6.out.2.2⟩, ?_⟩
              · rw [HUP.out.1, List.map_set]
                exact own_kept (u := .slice (some ⟨g2, 0, none⟩) n cap2) ho6 hg7 HT6.out.2.2
              · rw [HUP.out.2.1, List.map_set]
                exact ho7
              · exact below_row hg7 (below_row hg6 (below_tr HB6.out HB.out) (fun k hk => by cases hk; exact Nat.le_refl _)) (fun k hk => by cases hk; omega)
            case measure => simp [intOf]; omega
          · have HNO := hd (NO.out (by omega))
            go_wp2
            go_roundw
            case rel => exact ⟨j + 1, by omega, by go_num, by rw [HNO.out.2], by rw [HNO.out.1]; exact HT6.out, below_tr HB6.out HB.out⟩
            case measure => simp [intOf]; omega
        · have e : j = N := by omega
          subst e
          have HT := hd hT; have HB := hd hb
          clear hT hb
          by_cases hc : chB rz r (tmB rz n r) j = -1
          · obtain ⟨f1, f2, f3⟩ := fix_round (r := r) n1 AV.out (by rw [AL.out]; exact hc)
            have HF := hd (And.intro f1 f3)
            have HP := hd (show partB rz r (tmB rz n r) j = tmB rz n (r + 1) by rw [← AL.out, partB_all]; rfl)
            clear f1 f2 f3
            rw [hc]
            clear hc
            go_wp2
            go_ret2
            refine ⟨HB.out, .inl ⟨HF.out.1, _, rfl, ?_⟩⟩
            have h := HT.out.1
            rw [HP.out, HF.out.2] at h
            exact h
          · obtain ⟨v, v1, v2, v3⟩ := last_round (r := r) AV.out (by rw [AL.out]; exact hc)
            have NF := hd (fun h => nofix_round (r := r) AV.out h (by rw [AL.out]; exact hc))
            rw [AL.out] at v2
            have HP := hd (show partB rz r (tmB rz n r) j = tmB rz n (r + 1) by rw [← AL.out, partB_all]; rfl)
            have HV := hd v3
            rw [v2]
            have v0 : (0 : Int) ≤ (v : Int) := by omega
            clear hc v2 v3
            go_wp2
            go_roundw
            case rel => exact ⟨r + 1, by omega, by go_num, ⟨v, rfl, hd (fun _ => ⟨v, v1, rfl, HV.out, fun h => NF.out (by omega)⟩)⟩, by rw [← HP.out]; exact HT.out, HB.out⟩
            case measure => simp [intOf]; omega
    · have e : r = n := by omega
      subst e
      obtain ⟨v, v1, rfl, v3, v4⟩ := hch.out (by omega)
      have HNF := hd (v4 (Nat.le_refl _))
      obtain ⟨BR, d, d1, d2, d3⟩ := back_ring n1 (Nat.le_refl _) AV.out v1 v3
      obtain ⟨S, hS⟩ : ∃ S, S = tmB rz r r := ⟨_, rfl⟩
      have WR2 := WR.out v v1 v3
      rw [← hS] at HT BR d3 WR2
      clear hS v3 v4 hch
      obtain ⟨T, hTT⟩ : ∃ T : Nat → Nat, T = itU (backF rz S) v := ⟨_, rfl⟩
      have hT0 : v = T 0 := by rw [hTT]; rfl
      rw [← hTT] at BR d3 WR2
      have WR3 := hd WR2
      clear WR2
      have STEP := hd (show ∀ s, ∃ (i x y : Nat) (c d : Int), S.c.getD (T s) 0 = (i : Int) ∧ l[i]? = some ⟨x, y, c, d⟩ ∧ i < N ∧ x = T (s + 1) ∧ T s < r ∧ T (s + 1) < r from fun s => by
        obtain ⟨i, a, e1, e2, e3, e4⟩ := BR s
        have hi : i < N := by
          have := (List.getElem?_eq_some_iff.1 e2).1
          rw [AL.out] at this
          exact this
        obtain ⟨x, y, c, d, g1, g2, g3, g4, _⟩ := AG.out i (by rw [← HN.out]; exact hi)
        rw [g2] at e2
        have e5 := Option.some.inj e2
        subst e5
        exact ⟨i, x, y, c, d, e1, g1, hi, e4, by rw [← e3]; exact g4, by rw [← e4]; exact g3⟩)
      clear BR hTT v1
      have hTW := HT.out
      have hrB := HR.out.below HB.out
      -- the cells that a step reads
      have RD := hd (show ∀ s, ∃ (i x y : Nat) (c d : Int) (bb off : Nat), A = some ⟨bb, off, none⟩ ∧ i < N ∧ x = T (s + 1) ∧ T s < r ∧ T (s + 1) < r ∧ wo.cell? ⟨g2, T s, none⟩ = some (.int .i64 i) ∧ wo.cell? ⟨bb, off + i * 4, none⟩ = some (.int .i64 x) ∧ wo.cell? ⟨bb, off + i * 4 + 1, none⟩ = some (.int .i64 y) ∧ wo.cell? ⟨bb, off + i * 4 + 2, none⟩ = some (.int .i64 c) ∧ wo.cell? ⟨bb, off + i * 4 + 3, none⟩ = some (.int .i64 d) ∧ Hid (S.c.getD (T s) 0 = (i : Int) ∧ l[i]? = some ⟨x, y, c, d⟩) from fun s => by
        obtain ⟨i, x, y, c, d, e1, e2, e3, e4, e5, e6⟩ := STEP.out s
        have HH := hd (And.intro e1 e2)
        obtain ⟨bb, off, qa', qb', qc', qd', hA, hq', c0, c1, c2, c3⟩ := hrB.q4 e3
        have he := Option.some.inj (hq'.out.symm.trans e2)
        simp only [Q4.mk.injEq] at he
        obtain ⟨rfl, rfl, rfl, rfl⟩ := he
        refine ⟨i, x, y, _, _, bb, off, hA, e3, e4, e5, e6, ?_, c0, c1, c2, c3, HH⟩
        have ht := hTW.2.1
        rw [ht.cellAt (T s) (by omega), List.getElem?_map]
        have hl := ht.1
        simp at hl
        rw [List.getElem?_eq_getElem (by omega)]
        rw [List.getD_eq_getElem?_getD, List.getElem?_eq_getElem (by omega)] at e1
        simp only [Option.getD_some] at e1
        rw [e1]
        rfl)
      clear STEP hTW hrB
      subst hT0
      go_wp2
      go_loopw [12, 68] (fun ch ix wr => ∃ k : Nat, k ≤ r ∧ ix = .int .i64 k ∧ ch = .int .i64 (T k) ∧ wr = wo) (fun _ ix _ => r - (intOf ix).toNat)
      case atStart => exact ⟨0, by omega, rfl, rfl, rfl⟩
      case round =>
        obtain ⟨k, hk, rfl, rfl, hwr⟩ := hrel
        subst hwr
        by_cases hkt : k < r
        · obtain ⟨i, x, y, c, d', bb, off, rfl, hi, hx, j1, j2, e1, e2, e3, e4, e5, _⟩ := RD.out k
          have i1 : (0 : Int) ≤ (T k : Int) := by omega
          have i2 : (T k : Int) < (r : Int) := by omega
          have i3 : (0 : Int) ≤ (i : Int) := by omega
          have i4 : (i : Int) < (N : Int) := by omega
          have i5 : (k : Int) < (r : Int) := by omega
          go_wp2
          go_roundw
          case rel => exact ⟨k + 1, by omega, by go_num, by rw [← hx], by trivial⟩
          case measure => simp [intOf]; omega
        · have e : k = r := by omega
          subst e
          go_wp2
          obtain ⟨wz, hwz⟩ : ∃ wz : World, wz = wr := ⟨_, rfl⟩
          subst hwz
          have hstart := World.ownsRow_made (size := 4) wz #[] 0 (Nat.le_refl _) (by unfold maxLen; omega) rfl (e := 37)
          go_loopw [16, 17] (fun rg at' wq => ∃ s : Nat, s < d ∧ at' = .int .i64 (T (k + s)) ∧ Hid (wq.ownsRow wz.heap.size 37 4 rg s (q4s (wayL l S T k s))) ∧ Below wz.heap.size wz wq) (fun rg _ _ => d - lenV rg)
          case atStart => exact ⟨0, by omega, rfl, hd (by simpa [wayL, wayI, q4s] using hstart), (Below.refl _ _).alloc (Nat.le_refl _) _⟩
          case round =>
            clear hstart
            obtain ⟨s, hs, rfl, ho', hb⟩ := hrel
            have ho := ho'.out
            clear ho'
            obtain ⟨i, x, y, c, d', bb, off, hAe, hi, hx, j1, j2, e1, e2, e3, e4, e5, HH⟩ := RD.out (k + s)
            have HWL := hd (show q4s (wayL l S T k (s + 1)) = q4s (wayL l S T k s) ++ [.int .i64 x, .int .i64 y, .int .i64 c, .int .i64 d'] by rw [wayL_succ HH.out.1 HH.out.2, q4s_append]; rfl)
            obtain ⟨xs, hxs⟩ : ∃ xs, xs = q4s (wayL l S T k s) := ⟨_, rfl⟩
            rw [← hxs] at ho HWL
            clear hxs HH
            subst hAe
            replace e1 := below_at hb e1
            replace e2 := below_at hb e2
            replace e3 := below_at hb e3
            replace e4 := below_at hb e4
            replace e5 := below_at hb e5
            have i1 : (0 : Int) ≤ (T (k + s) : Int) := by omega
            have i2 : (T (k + s) : Int) < (k : Int) := by omega
            have i3 : (0 : Int) ≤ (i : Int) := by omega
            have i4 : (i : Int) < (N : Int) := by omega
            have HX := hd hx
            have HB2 := hd hb
            have Ho := hd ho
            have hown := own_in ho
            have hsz := hb.size
            obtain ⟨A3, cap3, rfl, hcap3, _, _⟩ := own_rd ho (by unfold maxLen; omega)
            have HWA := hd (ho.alloc (.cells #[.int .i64 x, .int .i64 y, .int .i64 c, .int .i64 d'] 37))
            have HWB := hd ((Below.refl wr.heap.size wr).alloc (Nat.le_refl _) (.cells #[.int .i64 x, .int .i64 y, .int .i64 c, .int .i64 d'] 37))
            have HK0 := hd (show (wr.alloc (.cells #[.int .i64 x, .int .i64 y, .int .i64 c, .int .i64 d'] 37)).cell? ⟨wr.heap.size, 0, none⟩ = some (.int .i64 x) from (World.cell?_alloc_new ..).trans rfl)
            have hwz : wz.heap.size ≤ (wr.alloc (.cells #[.int .i64 x, .int .i64 y, .int .i64 c, .int .i64 d'] 37)).heap.size := by simp; omega
            have HWZ := hd hwz
            have hd12 : d ≤ 12 := by omega
            clear hx hb ho hwz
            by_cases hend : x = T k
            · have HRQ := hd (WR3.out (s + 1) (by omega) (by omega) (by rw [← hend, HX.out, Nat.add_assoc]))
              subst hend
              go_wp2_with (at_builtin; go_must (refine wpList_app_arc _ _ _ _ _ _ rfl _ _ rfl wz.heap.size s (.slice A3 s cap3) _ rfl HWA.out _ rfl (by simp) (by omega) HWZ.out ?_); intro v' w6 ho6 hg6 hap; have hk6 := hg6.cell HK0.out (by intro e; have := hown _ e.symm; (try simp only at this); omega))
              go_ret2
              obtain ⟨A4, cap4, rfl, _, hr4, hA4⟩ := own_rd ho6 (by unfold maxLen; omega)
              obtain ⟨g4, rfl⟩ : ∃ g4, A4 = some ⟨g4, 0, none⟩ := by
                rcases hA4 with ⟨rfl, _⟩ | ⟨g4, rfl, _⟩
                · obtain ⟨_, _, h, _⟩ := hr4.2.2 (by omega); cases h
                · exact ⟨g4, rfl⟩
              refine ⟨below_tr (below_row hg6 (below_tr HWB.out HB2.out) (own_row HWA.out (Nat.le_refl _))) HB.out, .inr ⟨HNF.out, _, _, _, _, rfl, wayL l S T k (s + 1), HRQ.out.1, HRQ.out.2, (wayL_len ..).symm, ?_⟩⟩
              rw [HWL.out]
              exact own_mono ho6 HB.out.size
            · have i6 : ¬ (x : Int) = (T k : Int) := by omega
              go_wp2_with (at_builtin; go_must (refine wpList_app_arc _ _ _ _ _ _ rfl _ _ rfl wz.heap.size s (.slice A3 s cap3) _ rfl HWA.out _ rfl (by simp) (by omega) HWZ.out ?_); intro v' w6 ho6 hg6 hap; have hk6 := hg6.cell HK0.out (by intro e; have := hown _ e.symm; (try simp only at this); omega))
              obtain ⟨A4, cap4, rfl, _, hr4, _⟩ := own_rd ho6 (by unfold maxLen; omega)
              have hsd : s + 1 < d := by
                rcases Nat.lt_or_ge (s + 1) d with h | h
                · exact h
                · exfalso
                  have e : s + 1 = d := by omega
                  apply hend
                  rw [HX.out, Nat.add_assoc, e]
                  exact d3
              go_roundw
              case rel => exact ⟨s + 1, hsd, by rw [HX.out, Nat.add_assoc], hd (by rw [HWL.out]; exact ho6), below_row hg6 (below_tr HWB.out HB2.out) (own_row HWA.out (Nat.le_refl _))⟩
              case measure => simp [lenV]; omega
end Go.Proofs.Ytclkgfcehmmgaaa
