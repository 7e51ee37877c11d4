/- The best turns of a shop: the search's closure, whole. -/
import Derived.Test.YtkaopdpdfbkchaaShpR
namespace Go.Proofs.Ytkaopdpdfbkchaa
open Go.RowKit Plain
set_option linter.unusedVariables false
set_option linter.unusedSimpArgs false
attribute [local go_sem ↓] Go.wp_at_zero Go.wp_at_succ
theorem bx_row {k : BK} {gT i : Nat} (ho : BOrd k) (h : k.B0 ≤ i) (hn : i ≠ gT) : ¬ BX k gT i := by
  obtain ⟨a1, a2, a3, a4, a5, a6, a7, a8, a9⟩ := ho.lt
  intro hx
  rcases hx with h1 | h1 | h1 | h1 <;> omega
theorem StO.keep {q : StK} {w w' : World} {base : Nat} {N J F : Nat → Nat} {X : Nat → Prop} (h : StO q w base N J F) (hk : KeepX X w w') (h1 : ¬ X q.gN) (h2 : ¬ X q.gJ) (h3 : ¬ X q.gF) : StO q w' base N J F := ⟨hk.own h.oN h1, hk.own h.oJ h2, hk.own h.oF h3, h.n1, h.n2, h.n3⟩
theorem BSt.keep {k : BK} {w w' : World} {L : List Nat} {gT cT : Nat} {o : BestT} {lv : Int} {X : Nat → Prop} (h : BSt k w L gT cT o lv) (hk : KeepX X w w') (h1 : ¬ X k.xT) (h2 : ¬ X k.xB) (h3 : ¬ X k.xL) (h5 : ¬ X gT) (h4 : ∀ i, k.B0 ≤ i → i < w.heap.size → ¬ X i) : BSt k w' L gT cT o lv :=
  ⟨hk.heap h.hT h1, hk.own h.oT h5, h.gx, hk.heap h.hL h3, h.be.keep hk h2 (fun i hi _ hl => h4 i hi hl) (.inl rfl)⟩
theorem BSt.drewN {k : BK} {w : World} {L : List Nat} {gT cT : Nat} {o : BestT} {lv : Int} (h : BSt k w L gT cT o lv) (n : Nat) : BSt k (w.drewN n) L gT cT o lv := h.keep ((KeepX.refl (fun _ => False) w).drewN n) id id id id (fun _ _ _ => id)
theorem BSt.below {k : BK} {w w' : World} {L : List Nat} {gT cT : Nat} {o : BestT} {lv : Int} (h : BSt k w L gT cT o lv) (hb : Below w.heap.size w w') : BSt k w' L gT cT o lv := h.keep (KeepX.of_below (fun _ => False) hb) id id id id (fun _ _ _ => id)
theorem StO.below {q : StK} {w w' : World} {base : Nat} {N J F : Nat → Nat} (h : StO q w base N J F) (hb : Below w.heap.size w w') : StO q w' base N J F := h.keep (KeepX.of_below (fun _ => False) hb) id id id
theorem BEnv.keepX {k : BK} {w w' : World} {t ro : Nat → Nat} {X : Nat → Prop} (h : BEnv k w t ro) (hk : KeepX X w w') (ho : BOrd k) (hx : ∀ i, i < k.B0 → ¬ X i) : BEnv k w' t ro := by
  obtain ⟨a1, a2, a3, a4, a5, a6, a7, a8, a9⟩ := ho.lt
  exact ⟨⟨h.T.k, h.T.r, hk.fa h.T.f (hx _ a1)⟩, ⟨hk.fa h.R.f (hx _ a2), h.R.p⟩, hk.heap h.h4 (hx _ a3), hk.heap h.h3 (hx _ a4), hk.heap h.h9 (hx _ a5), hk.heap h.h7 (hx _ a6)⟩
/-- the closure's contract at lists of turns of a length -/
def PutC (k : BK) (t ro : Nat → Nat) (d : Nat) : Prop :=
  ∀ (q : StK) (L : List Nat) (base gT cT : Nat) (o : BestT) (lv : Int) (w : World), L.length + d = k.s → LegR k.m k.n L → BEnv k w t ro → BSt k w L gT cT o lv → NodeS k q gT → k.B0 ≤ base → StO q w base (runR k.m ro t L).N (runR k.m ro t L).J (runR k.m ro t L).F → OkO k.m k.n ro t o →
    Calls Try.prog 28 #[q.V, .pointer (some ⟨k.xT, 0, none⟩), .pointer (some ⟨k.x4, 0, none⟩), .pointer (some ⟨k.xB, 0, none⟩), .pointer (some ⟨k.xL, 0, none⟩), .pointer (some ⟨k.x9, 0, none⟩), .pointer (some ⟨k.x3, 0, none⟩), .pointer (some ⟨k.x7, 0, none⟩)] w (PutOut k t ro L gT o w)
set_option maxRecDepth 100000 in
set_option maxHeartbeats 8000000 in
theorem put_node (k : BK) (t ro : Nat → Nat) (hO : BOrd k) (d : Nat) (IH : PutC k t ro d) : PutC k t ro (d + 1) := by
  intro q L base gT cT o lv w hl hLeg hE hS hq hbase hR hOk
  obtain ⟨b, c, b2, c2, m, n, s, xT, x4, xB, xL, x9, x3, x7, B0, B1⟩ := k
  obtain ⟨qb, qc, qb2, qc2, qm, qn, qs, gN, gJ, gF, kN, kJ, kF⟩ := q
  obtain ⟨e1, e2, e3, e4, e5, e6, e7⟩ := hq.e
  simp only at e1 e2 e3 e4 e5 e6 e7
  subst e1; subst e2; subst e3; subst e4; subst e5; subst e6; subst e7
  have hK : ShK qm qn qs := hE.T.k
  have m1 := hK.m1
  have m3 := hK.m3
  have n1 := hK.n1
  have n4 := hK.n4
  have s8 := hK.s8
  have s1 := hK.s1
  simp only at hl hbase
  obtain ⟨N, hN⟩ : ∃ N, N = (runR qm ro t L).N := ⟨_, rfl⟩
  obtain ⟨J, hJ⟩ : ∃ J, J = (runR qm ro t L).J := ⟨_, rfl⟩
  obtain ⟨F, hF⟩ : ∃ F, F = (runR qm ro t L).F := ⟨_, rfl⟩
  obtain ⟨lL, hlL⟩ : ∃ lL, lL = L.length := ⟨_, rfl⟩
  have hlt : lL < qs := by omega
  have hT : w.heap[xT]? = some (.cells #[.slice (some ⟨gT, 0, none⟩) lL cT] 25 (0, 0)) := by rw [hlL]; exact hS.hT
  have oT : OwnE 2 w B1 gT lL cT (lf L) := by rw [hlL]; exact hS.oT
  have h4 : w.heap[x4]? = some (.cells #[.slice (some ⟨qb, 0, none⟩) qs qc] 25 (0, 0)) := hE.h4
  have h9 : w.heap[x9]? = some (.cells #[.slice (some ⟨qb, 0, none⟩) qs qc, .int .i64 qn, .int .i64 qm] 42 (0, 0)) := hE.h9
  have hgT : B1 ≤ gT := own_row oT (Nat.le_refl _) _ rfl
  obtain ⟨hgx, hgx7⟩ : gT ≠ xT ∧ gT ≠ x7 := hS.gx
  obtain ⟨hl1b, hl1b2, hl14, hl13, hl19, hl1B, hl1L⟩ : qb < B1 ∧ qb2 < B1 ∧ x4 < B1 ∧ x3 < B1 ∧ x9 < B1 ∧ xB < B1 ∧ xL < B1 := hO.lt1
  have hgTs : gT < w.heap.size := (World.ownsRow.lt oT gT rfl).2
  have hR' : StO ⟨qb, qc, qb2, qc2, qm, qn, qs, gN, gJ, gF, kN, kJ, kF⟩ w base N J F := by rw [hN, hJ, hF]; exact hR
  have hgN : base ≤ gN ∧ gN < w.heap.size := World.ownsRow.lt hR'.oN gN rfl
  have hgJ : base ≤ gJ ∧ gJ < w.heap.size := World.ownsRow.lt hR'.oJ gJ rfl
  have hgF : base ≤ gF ∧ gF < w.heap.size := World.ownsRow.lt hR'.oF gF rfl
  obtain ⟨dN, dJ, dF⟩ := hq.d
  simp only at dN dJ dF
  have HNC := hd (show ∀ i, N i = L.count i from fun i => by rw [hN, runR_N])
  have HO := hd hO
  have HLG := hd (show LegR qm qn L from hLeg)
  have HLl := hd hlL
  have HNJ := hd (And.intro hN (And.intro hJ hF))
  have HE := hd hE
  have HK := hd hK
  have HD := hd hl
  have HS := hd hS
  have HR := hd hR'
  have HOK := hd hOk
  have HIH := hd IH
  have HB00 := hd hbase
  clear hO hLeg hN hJ hF hE hK hl hS hR hR' hq hOk IH hlL
  unfold StK.V
  go_enter Try.func28, Try.ntmps28
  obtain ⟨g8, hg8⟩ : ∃ g8, g8 = w.heap.size := ⟨_, rfl⟩
  have HG8 := hd hg8
  obtain ⟨w1, hw1⟩ : ∃ w1, w1 = w.alloc (.cells #[.slice (some ⟨qb, 0, none⟩) qs qc, .int .i64 qn, .int .i64 qm, .slice (some ⟨qb2, 0, none⟩) qs qc2, .slice (some ⟨gN, 0, none⟩) qn kN, .slice (some ⟨gJ, 0, none⟩) qn kJ, .slice (some ⟨gF, 0, none⟩) qm kF] 54) := ⟨_, rfl⟩
  have hh : w1.heap[g8]? = some (.cells #[.slice (some ⟨qb, 0, none⟩) qs qc, .int .i64 qn, .int .i64 qm, .slice (some ⟨qb2, 0, none⟩) qs qc2, .slice (some ⟨gN, 0, none⟩) qn kN, .slice (some ⟨gJ, 0, none⟩) qn kJ, .slice (some ⟨gF, 0, none⟩) qm kF] 54 (0, 0)) := by rw [hw1, hg8]; exact heap_alloc_new _ _
  have hb1 : Below w.heap.size w w1 := by rw [hw1]; go_grown
  have hs1 : w1.heap.size = w.heap.size + 1 := by rw [hw1]; simp
  have HS1 := hd hs1
  have cT1 : w1.cell? ⟨xT, 0, none⟩ = some (.slice (some ⟨gT, 0, none⟩) lL cT) := below_at hb1 (cell_of_row w xT 0 _ _ _ hT)
  have c41 : w1.cell? ⟨x4, 0, none⟩ = some (.slice (some ⟨qb, 0, none⟩) qs qc) := below_at hb1 (cell_of_row w x4 0 _ _ _ h4)
  have c91 : w1.cell? ⟨x9, 1, none⟩ = some (.int .i64 qn) := below_at hb1 (cell_of_row w x9 1 _ _ _ h9)
  have hne : ((lL : Int) == (qs : Int)) = false := by simp; omega
  have HB1 := hd hb1
  have HH := hd hh
  clear hT oT h4 h9 hh hb1 hs1
  go_upto_region 1 with fail
  rw [← hg8, ← hw1]
  clear hw1 hg8
  go_wp2_with fail
  clear cT1 c41 c91 hne
  go_loopw [32] (fun iv wr => ∃ (i gTi cTi : Nat) (oi : BestT) (lvi : Int), i ≤ qn ∧ iv = .int .i64 i ∧ Hid (BSt ⟨qb, qc, qb2, qc2, qm, qn, qs, xT, x4, xB, xL, x9, x3, x7, B0, B1⟩ wr L gTi cTi oi lvi) ∧ Hid (gTi = gT ∨ w1.heap.size ≤ gTi) ∧ Hid (OkO qm qn ro t oi) ∧ Hid (LeO o oi) ∧ Hid (∀ j, j < i → L.count j < qm → CovO qm qn ro t oi (L ++ [j])) ∧ Hid (KeepX (BX ⟨qb, qc, qb2, qc2, qm, qn, qs, xT, x4, xB, xL, x9, x3, x7, B0, B1⟩ gT) w1 wr)) (fun iv _ => qn - (intOf iv).toNat)
  case atStart =>
    refine ⟨0, gT, cT, o, lv, by omega, rfl, hd ⟨(KeepX.of_below (fun _ => False) HB1.out).heap HS.out.hT id, own_below HS.out.oT HB1.out, HS.out.gx, (KeepX.of_below (fun _ => False) HB1.out).heap HS.out.hL id, HS.out.be.keep (KeepX.of_below (fun _ => False) HB1.out) id (fun _ _ _ _ => id) (.inl rfl)⟩, hd (.inl rfl), HOK, hd (LeO.refl o), hd (fun j hj => by omega), hd (KeepX.refl _ _)⟩
  case round =>
    obtain ⟨i, gTi, cTi, oi, lvi, hi, rfl, HSi, HGi, HOKi, HLE, HCV, HKX⟩ := hrel
    have HKw := hd (KeepX.from HB1.out HKX.out)
    have HEi := hd (HE.out.keep HKw.out HO.out ⟨hgT, hgx7⟩)
    by_cases hlt2 : i < qn
    · have HRi := hd (HR.out.keep HKw.out (bx_row HO.out (by have := HB00.out; show B0 ≤ gN; omega) dN) (bx_row HO.out (by have := HB00.out; show B0 ≤ gJ; omega) dJ) (bx_row HO.out (by have := HB00.out; show B0 ≤ gF; omega) dF))
      have H8i := hd (HKX.out.heap HH.out (fun h => by
        have h2 := HG8.out
        rcases h with h | h | h | h
        · have h9 : g8 = xT := h; have a7 : xT < B0 := HO.out.lt.2.2.2.2.2.2.1; omega
        · have h9 : g8 = xB := h; have a7 : xB < B0 := HO.out.lt.2.2.2.2.2.2.2.1; omega
        · have h9 : g8 = xL := h; have a7 : xL < B0 := HO.out.lt.2.2.2.2.2.2.2.2; omega
        · have h9 : g8 = gT := h; omega))
      have i2 : (i : Int) < (qn : Int) := Int.ofNat_lt.2 hlt2
      have e0 : wr.cell? ⟨g8, 4, none⟩ = some (.slice (some ⟨gN, 0, none⟩) qn kN) := (cell_of_row _ g8 4 _ _ _ H8i.out).trans rfl
      have cN : wr.cell? ⟨gN, i, none⟩ = some (.int .i64 (natF N i)) := HRi.out.oN.at hlt2
      have c92 : wr.cell? ⟨x9, 2, none⟩ = some (.int .i64 qm) := cell_of_row wr x9 2 _ _ _ HEi.out.h9
      unfold natF at cN
      by_cases hc : L.count i = qm
      · have hNi : N i = qm := by rw [HNC.out]; exact hc
        rw [hNi] at cN
        have HCV2 := hd (show ∀ j, j < i + 1 → L.count j < qm → CovO qm qn ro t oi (L ++ [j]) from fun j hj h => by
          by_cases e : j = i
          · subst e; omega
          · exact HCV.out j (by omega) h)
        clear hc hNi
        have b1 : ((qm : Int) == (qm : Int)) = true := by simp
        go_wp2
        refine wp_region_quiet_lit (by kernel_rfl) (by kernel_rfl) ?_
        go_big_quiet_step (fail); go_big_quiet_step (fail); go_big_quiet_step (fail); go_big_quiet_step (fail); go_big_quiet_step (fail); go_big_quiet_step (fail)
        go_big_quiet_step (fail); go_big_quiet_step (fail)
        refine wpQuiet_nil ?_; intro _ hw'; obtain ⟨nq, hw''⟩ := hw'; subst hw''
        clear cN e0 c92
        go_wp2
        go_roundw
        case rel => exact ⟨i + 1, gTi, cTi, oi, lvi, by omega, by go_num, hd (HSi.out.drewN nq), HGi, HOKi, HLE, HCV2, hd (HKX.out.drewN nq)⟩
        case measure => simp [intOf]; omega
      · have hcm : L.count i < qm := by have := HLG.out.2 i; omega
        have hNi : N i < qm := by rw [HNC.out]; exact hcm
        have b1 : ((N i : Int) == (qm : Int)) = false := by simp; omega
        have HCM := hd hcm
        have HNI := hd hNi
        clear hc hcm hNi
        go_wp2
        refine wp_region_quiet_lit (by kernel_rfl) (by kernel_rfl) ?_
        go_big_quiet_step (fail); go_big_quiet_step (fail); go_big_quiet_step (fail); go_big_quiet_step (fail); go_big_quiet_step (fail); go_big_quiet_step (fail)
        go_big_quiet_step (fail); go_big_quiet_step (fail)
        refine wpQuiet_nil ?_; intro _ hw'; obtain ⟨nq, hw''⟩ := hw'; subst hw''
        clear cN e0 c92 b1
        go_wp2_with fail
        obtain ⟨W0, hW0⟩ : ∃ W0, W0 = wr.drewN nq := ⟨_, rfl⟩
        have HBW := hd (show Below wr.heap.size wr W0 by rw [hW0]; exact below_drewN (Below.refl _ _) _)
        rw [← hW0]
        clear hW0
        have HSW := hd (HSi.out.below HBW.out)
        have HEW := hd (HEi.out.below HBW.out)
        have HRW := hd (HRi.out.below HBW.out)
        have HKXW := hd (KeepX.mono (HKX.out.trans (KeepX.of_below (fun _ => False) HBW.out)) (Y := BX ⟨qb, qc, qb2, qc2, qm, qn, qs, xT, x4, xB, xL, x9, x3, x7, B0, B1⟩ gT) (fun i _ h => h.elim id (fun h => h.elim)))
        have H8W := hd ((HBW.out.block g8 (Array.getElem?_eq_some_iff.1 H8i.out).1).trans H8i.out)
        have hsW : wr.heap.size ≤ W0.heap.size := HBW.out.size
        clear HSi HEi HRi HKX H8i HBW
        have CLN := hd (fun (W : World) (hb : Below W0.heap.size W0 W) => CloneIF gN 0 kN qn (natF N) W (OwnE.fa (own_below HRW.out.oN hb) (by omega)) n1 (by omega))
        have CLJ := hd (fun (W : World) (hb : Below W0.heap.size W0 W) => CloneF gJ 0 kJ qn (natF J) W (OwnE.fa (own_below HRW.out.oJ hb) (by omega)) n1 (by omega))
        have CLF := hd (fun (W : World) (hb : Below W0.heap.size W0 W) => CloneF gF 0 kF qm (natF F) W (OwnE.fa (own_below HRW.out.oF hb) (by omega)) m1 (by omega))
        have keepH := hd (fun (W : World) (hb : Below W0.heap.size W0 W) => show (W.cell? ⟨x9, 0, none⟩ = some (.slice (some ⟨qb, 0, none⟩) qs qc) ∧ W.cell? ⟨x9, 1, none⟩ = some (.int .i64 qn) ∧ W.cell? ⟨x9, 2, none⟩ = some (.int .i64 qm)) ∧ W.cell? ⟨x3, 0, none⟩ = some (.slice (some ⟨qb2, 0, none⟩) qs qc2) ∧ (W.cell? ⟨g8, 4, none⟩ = some (.slice (some ⟨gN, 0, none⟩) qn kN) ∧ W.cell? ⟨g8, 5, none⟩ = some (.slice (some ⟨gJ, 0, none⟩) qn kJ) ∧ W.cell? ⟨g8, 6, none⟩ = some (.slice (some ⟨gF, 0, none⟩) qm kF)) ∧ Below W0.heap.size W0 W from
          ⟨three_cells ((hb.block x9 (Array.getElem?_eq_some_iff.1 HEW.out.h9).1).trans HEW.out.h9), below_at hb (cell_of_row W0 x3 0 _ _ _ HEW.out.h3), ⟨below_at hb (cell_of_row W0 g8 4 _ _ _ H8W.out), below_at hb (cell_of_row W0 g8 5 _ _ _ H8W.out), below_at hb (cell_of_row W0 g8 6 _ _ _ H8W.out)⟩, hb⟩)
        refine' Code.wp_mono (ExPost7.imp (X := (fun gN' kN' gJ' kJ' gF' kF' g11 w' => w'.heap[g11]? = some (.cells #[.slice (some ⟨qb, 0, none⟩) qs qc, .int .i64 qn, .int .i64 qm, .slice (some ⟨qb2, 0, none⟩) qs qc2, .slice (some ⟨gN', 0, none⟩) qn kN', .slice (some ⟨gJ', 0, none⟩) qn kJ', .slice (some ⟨gF', 0, none⟩) qm kF'] 54 (0, 0)) ∧ StO ⟨qb, qc, qb2, qc2, qm, qn, qs, gN', gJ', gF', kN', kJ', kF'⟩ w' W0.heap.size N J F ∧ (W0.heap.size ≤ g11 ∧ g11 ≠ gN' ∧ g11 ≠ gJ' ∧ g11 ≠ gF') ∧ Below W0.heap.size W0 w')) (mk := _) ?_) ?_
        rotate_left 2
        focus
          go_region_held3 (fun W => (W.cell? ⟨x9, 0, none⟩ = some (.slice (some ⟨qb, 0, none⟩) qs qc) ∧ W.cell? ⟨x9, 1, none⟩ = some (.int .i64 qn) ∧ W.cell? ⟨x9, 2, none⟩ = some (.int .i64 qm)) ∧ W.cell? ⟨x3, 0, none⟩ = some (.slice (some ⟨qb2, 0, none⟩) qs qc2) ∧ (W.cell? ⟨g8, 4, none⟩ = some (.slice (some ⟨gN, 0, none⟩) qn kN) ∧ W.cell? ⟨g8, 5, none⟩ = some (.slice (some ⟨gJ, 0, none⟩) qn kJ) ∧ W.cell? ⟨g8, 6, none⟩ = some (.slice (some ⟨gF, 0, none⟩) qm kF)) ∧ Below W0.heap.size W0 W)
            (first | with_reducible exact keepH.out _ (HBs.out _ _ _ _ _ _ _) | with_reducible exact keepH.out _ HBc.out | with_reducible exact keepH.out _ (Below.refl _ W0).drew | with_reducible exact keepH.out _ ((Below.refl _ W0).alloc (Nat.le_refl _) _).drew | with_reducible exact keepH.out _ (HBc.out.alloc HBc.out.size _) | exact keepH.out _ (HBc.out.alloc HBc.out.size _))
            (first
              | (go_simp; go_at_call 30; refine (CLN.out _ (by first | exact HBc.out | exact (Below.refl _ W0).drew | exact ((Below.refl _ W0).alloc (Nat.le_refl _) _).drew | exact ((Below.refl _ W0).drew.alloc (Nat.le_refl _) _) | exact (HBc.out.alloc HBc.out.size _))).mono ?_; rintro e wN ⟨gN', kN', rfl, hoN, hbN⟩; have HBc := hd (below_tr hbN (by first | exact HBc.out | exact (Below.refl _ W0).drew | exact ((Below.refl _ W0).alloc (Nat.le_refl _) _).drew | exact ((Below.refl _ W0).drew.alloc (Nat.le_refl _) _) | exact (HBc.out.alloc HBc.out.size _))); have HBcN := HBc; (first | (have H11 := hd ((hbN.block W0.heap.size (by simp)).trans (heap_alloc_new W0 (.cells #[.slice none 0 0, .int .i64 0, .int .i64 0, .slice none 0 0, .slice none 0 0, .slice none 0 0, .slice none 0 0] 54))); have HGE := hd (show W0.heap.size ≤ W0.heap.size from Nat.le_refl _)) | (replace H11 := hd ((hbN.block _ (Array.getElem?_eq_some_iff.1 H11.out).1).trans H11.out)) | skip))
              | (go_simp; go_at_call_has 29 gJ; refine (CLJ.out _ (by first | exact HBc.out | exact (Below.refl _ W0).drew | exact ((Below.refl _ W0).alloc (Nat.le_refl _) _).drew | exact ((Below.refl _ W0).drew.alloc (Nat.le_refl _) _) | exact (HBc.out.alloc HBc.out.size _))).mono ?_; rintro e wJ ⟨gJ', kJ', rfl, hoJ, hbJ⟩; have HoN := hd (own_below (by first | exact hoN | exact World.ownsRow.alloc hoN _) hbJ); have HBc := hd (below_tr hbJ (by first | exact HBc.out | exact (Below.refl _ W0).drew | exact ((Below.refl _ W0).alloc (Nat.le_refl _) _).drew | exact ((Below.refl _ W0).drew.alloc (Nat.le_refl _) _) | exact (HBc.out.alloc HBc.out.size _))); have HBcJ := HBc; (first | (have H11 := hd ((hbJ.block wN.heap.size (by simp)).trans (heap_alloc_new wN (.cells #[.slice none 0 0, .int .i64 0, .int .i64 0, .slice none 0 0, .slice none 0 0, .slice none 0 0, .slice none 0 0] 54))); have HGE := hd (show W0.heap.size ≤ wN.heap.size from HBcN.out.size)) | (replace H11 := hd ((hbJ.block _ (Array.getElem?_eq_some_iff.1 H11.out).1).trans H11.out)) | skip))
              | (go_simp; go_at_call_has 29 gF; refine (CLF.out _ (by first | exact HBc.out | exact (Below.refl _ W0).drew | exact ((Below.refl _ W0).alloc (Nat.le_refl _) _).drew | exact ((Below.refl _ W0).drew.alloc (Nat.le_refl _) _) | exact (HBc.out.alloc HBc.out.size _))).mono ?_; rintro e wF ⟨gF', kF', rfl, hoF, hbF⟩; have HoN2 := hd (own_below (by first | exact HoN.out | exact World.ownsRow.alloc HoN.out _) hbF); have HoJ2 := hd (own_below (by first | exact hoJ | exact World.ownsRow.alloc hoJ _) hbF); have HBc := hd (below_tr hbF (by first | exact HBc.out | exact (Below.refl _ W0).drew | exact ((Below.refl _ W0).alloc (Nat.le_refl _) _).drew | exact ((Below.refl _ W0).drew.alloc (Nat.le_refl _) _) | exact (HBc.out.alloc HBc.out.size _))); have HBcF := HBc; (first | (have H11 := hd ((hbF.block wJ.heap.size (by simp)).trans (heap_alloc_new wJ (.cells #[.slice none 0 0, .int .i64 0, .int .i64 0, .slice none 0 0, .slice none 0 0, .slice none 0 0, .slice none 0 0] 54))); have HGE := hd (show W0.heap.size ≤ wJ.heap.size from HBcJ.out.size)) | (replace H11 := hd ((hbF.block _ (Array.getElem?_eq_some_iff.1 H11.out).1).trans H11.out)) | skip); (first | (have HBs := hd (fun (a0 a1 a2 a3 a4 a5 a6 : Value) => HBc.out.grown (grown_set7 (a0 := a0) (a1 := a1) (a2 := a2) (a3 := a3) (a4 := a4) (a5 := a5) (a6 := a6)) HBc.out.size (fun k e => by cases e; exact HGE.out)); have HT11 := H11.out; have y0 : wF.cell? ⟨_, 0, none⟩ = some (.slice none 0 0) := cell_of_row _ _ 0 _ _ _ H11.out; have z0 := frozen_of_row _ _ 0 _ _ H11.out; have y1 : wF.cell? ⟨_, 1, none⟩ = some (.int .i64 0) := cell_of_row _ _ 1 _ _ _ H11.out; have z1 := frozen_of_row _ _ 1 _ _ H11.out; have y2 : wF.cell? ⟨_, 2, none⟩ = some (.int .i64 0) := cell_of_row _ _ 2 _ _ _ H11.out; have z2 := frozen_of_row _ _ 2 _ _ H11.out; have y3 : wF.cell? ⟨_, 3, none⟩ = some (.slice none 0 0) := cell_of_row _ _ 3 _ _ _ H11.out; have z3 := frozen_of_row _ _ 3 _ _ H11.out; have y4 : wF.cell? ⟨_, 4, none⟩ = some (.slice none 0 0) := cell_of_row _ _ 4 _ _ _ H11.out; have z4 := frozen_of_row _ _ 4 _ _ H11.out; have y5 : wF.cell? ⟨_, 5, none⟩ = some (.slice none 0 0) := cell_of_row _ _ 5 _ _ _ H11.out; have z5 := frozen_of_row _ _ 5 _ _ H11.out; have y6 : wF.cell? ⟨_, 6, none⟩ = some (.slice none 0 0) := cell_of_row _ _ 6 _ _ _ H11.out; have z6 := frozen_of_row _ _ 6 _ _ H11.out) | skip)))
          · have b1 : W0.heap.size ≤ gN' := by have h := own_row hoN (Nat.le_refl _) _ rfl; first | exact h | simpa using h
            have b2 := own_row hoJ (Nat.le_refl _) _ rfl
            have b3 := own_row hoF (Nat.le_refl _) _ rfl
            have l1 := (World.ownsRow.lt hoN gN' rfl).2
            have l2 := (World.ownsRow.lt hoJ gJ' rfl).2
            have l3 := (World.ownsRow.lt hoF gF' rfl).2
            have t1 := hbJ.size
            have t2 := hbF.size
            have t3 := HBcN.out.size
            have t4 := HBcJ.out.size
            simp only [World.size_alloc] at b2 b3 t1 t2
            refine ⟨gN', kN', gJ', kJ', gF', kF', wF.heap.size, ?_, heap_alloc_new _ _, ⟨World.ownsRow.alloc (own_mono HoN2.out (by first | exact Nat.le_refl _ | omega | (simp; done) | (simp; omega))) _, World.ownsRow.alloc (own_mono HoJ2.out (by first | exact Nat.le_refl _ | omega | (simp; done) | (simp; omega))) _, World.ownsRow.alloc (own_mono hoF (by first | exact Nat.le_refl _ | omega | (simp; done) | (simp; omega))) _, by simp only; omega, by simp only; omega, by simp only; omega⟩, ⟨by omega, by omega, by omega, by omega⟩, HBcF.out.alloc HBcF.out.size _⟩
            generalize wF.heap.size = g11
            exact rfl
          · have b1 : W0.heap.size ≤ gN' := by have h := own_row hoN (Nat.le_refl _) _ rfl; first | exact h | simpa using h
            have b2 := own_row hoJ (Nat.le_refl _) _ rfl
            have b3 := own_row hoF (Nat.le_refl _) _ rfl
            have l1 := (World.ownsRow.lt hoN gN' rfl).2
            have l2 := (World.ownsRow.lt hoJ gJ' rfl).2
            have l3 := (World.ownsRow.lt hoF gF' rfl).2
            have t1 := hbJ.size
            have t2 := hbF.size
            have t3 := HBcN.out.size
            have t4 := HBcJ.out.size
            simp only [World.size_alloc] at b2 b3 t1 t2
            refine ⟨gN', kN', gJ', kJ', gF', kF', wJ.heap.size, ?_, set7_heap HT11, ⟨OwnE.kept (own_mono HoN2.out (by first | exact Nat.le_refl _ | omega | (simp; done) | (simp; omega))) grown_set7 (by simp only; omega), OwnE.kept (own_mono HoJ2.out (by first | exact Nat.le_refl _ | omega | (simp; done) | (simp; omega))) grown_set7 (by simp only; omega), OwnE.kept (own_mono hoF (by first | exact Nat.le_refl _ | omega | (simp; done) | (simp; omega))) grown_set7 (by simp only; omega), by simp only; omega, by simp only; omega, by simp only; omega⟩, ⟨by omega, by omega, by omega, by omega⟩, HBs.out _ _ _ _ _ _ _⟩
            generalize wJ.heap.size = g11
            exact rfl
          · have b1 : W0.heap.size ≤ gN' := by have h := own_row hoN (Nat.le_refl _) _ rfl; first | exact h | simpa using h
            have b2 := own_row hoJ (Nat.le_refl _) _ rfl
            have b3 := own_row hoF (Nat.le_refl _) _ rfl
            have l1 := (World.ownsRow.lt hoN gN' rfl).2
            have l2 := (World.ownsRow.lt hoJ gJ' rfl).2
            have l3 := (World.ownsRow.lt hoF gF' rfl).2
            have t1 := hbJ.size
            have t2 := hbF.size
            have t3 := HBcN.out.size
            have t4 := HBcJ.out.size
            simp only [World.size_alloc] at b2 b3 t1 t2
            refine ⟨gN', kN', gJ', kJ', gF', kF', wN.heap.size, ?_, set7_heap HT11, ⟨OwnE.kept (own_mono HoN2.out (by first | exact Nat.le_refl _ | omega | (simp; done) | (simp; omega))) grown_set7 (by simp only; omega), OwnE.kept (own_mono HoJ2.out (by first | exact Nat.le_refl _ | omega | (simp; done) | (simp; omega))) grown_set7 (by simp only; omega), OwnE.kept (own_mono hoF (by first | exact Nat.le_refl _ | omega | (simp; done) | (simp; omega))) grown_set7 (by simp only; omega), by simp only; omega, by simp only; omega, by simp only; omega⟩, ⟨by omega, by omega, by omega, by omega⟩, HBs.out _ _ _ _ _ _ _⟩
            generalize wN.heap.size = g11
            exact rfl
          · have b1 : W0.heap.size + 1 ≤ gN' := by have h := own_row hoN (Nat.le_refl _) _ rfl; first | exact h | simpa using h
            have b2 := own_row hoJ (Nat.le_refl _) _ rfl
            have b3 := own_row hoF (Nat.le_refl _) _ rfl
            have l1 := (World.ownsRow.lt hoN gN' rfl).2
            have l2 := (World.ownsRow.lt hoJ gJ' rfl).2
            have l3 := (World.ownsRow.lt hoF gF' rfl).2
            have t1 := hbJ.size
            have t2 := hbF.size
            have t3 := HBcN.out.size
            have t4 := HBcJ.out.size
            simp only [World.size_alloc] at b2 b3 t1 t2
            refine ⟨gN', kN', gJ', kJ', gF', kF', W0.heap.size, ?_, set7_heap HT11, ⟨OwnE.kept (own_mono HoN2.out (by first | exact Nat.le_refl _ | omega | (simp; done) | (simp; omega))) grown_set7 (by simp only; omega), OwnE.kept (own_mono HoJ2.out (by first | exact Nat.le_refl _ | omega | (simp; done) | (simp; omega))) grown_set7 (by simp only; omega), OwnE.kept (own_mono hoF (by first | exact Nat.le_refl _ | omega | (simp; done) | (simp; omega))) grown_set7 (by simp only; omega), by simp only; omega, by simp only; omega, by simp only; omega⟩, ⟨by omega, by omega, by omega, by omega⟩, HBs.out _ _ _ _ _ _ _⟩
            generalize W0.heap.size = g11
            exact rfl
        rintro gN' kN' gJ' kJ' gF' kF' g11 w2 ⟨h11, hst2, ⟨n0, n1', n2', n3'⟩, hb2⟩
        clear CLN CLJ CLF keepH
        have hsz12 : w1.heap.size ≤ W0.heap.size := HKXW.out.size
        have hsB0 : B0 ≤ W0.heap.size := by have := HS1.out; omega
        have hxT : xT < B0 := HO.out.lt.2.2.2.2.2.2.1
        have hxB : xB < B0 := HO.out.lt.2.2.2.2.2.2.2.1
        have hxL : xL < B0 := HO.out.lt.2.2.2.2.2.2.2.2
        have hx7 : x7 < B0 := HO.out.lt.2.2.2.2.2.1
        have hqb : qb < B0 := HO.out.lt.1
        have hqb2 : qb2 < B0 := HO.out.lt.2.1
        have b1' : W0.heap.size ≤ gN' := own_row hst2.oN (Nat.le_refl _) _ rfl
        have b2' : W0.heap.size ≤ gJ' := own_row hst2.oJ (Nat.le_refl _) _ rfl
        have b3' : W0.heap.size ≤ gF' := own_row hst2.oF (Nat.le_refl _) _ rfl
        have hRI := RI.run (t := t) (s := qs) HK.out.e (fun x hx => by
          have hq9 : x / qm < qn := Nat.div_lt_of_lt_mul (by rw [Nat.mul_comm, ← HK.out.e]; exact hx)
          have := (HE.out.R.p (x / qm) hq9).lt (x % qm) (Nat.mod_lt _ (by omega))
          have e : x / qm * qm + x % qm = x := by rw [Nat.mul_comm]; exact Nat.div_add_mod x qm
          show ro x < qm
          rw [← e]; exact this) L HLG.out
        have hbd := RI.b72 hRI (fun x hx => (HE.out.T.r x hx).2) s8
        rw [← HNJ.out.2.1, ← HNJ.out.2.2] at hbd
        have TU := hd (turn_any ⟨qb, qc, qb2, qc2, qm, qn, qs, gN', gJ', gF', kN', kJ', kF'⟩ W0.heap.size t ro N J F i w2 ⟨HEW.out.T.below hb2, HEW.out.R.below hb2, ⟨by simp only; omega, by simp only; omega, by simp only; omega⟩, ⟨by simp only; omega, by simp only; omega, by simp only; omega⟩⟩ hst2 hlt2 HNI.out hbd.1 hbd.2)
        unfold StK.V at TU
        simp only at TU
        have HST2 := hd hst2
        have H11 := hd h11
        have HB2 := hd hb2
        have y0 : w2.cell? ⟨g11, 0, none⟩ = some (.slice (some ⟨qb, 0, none⟩) qs qc) := cell_of_row w2 g11 0 _ _ _ h11
        have y1 : w2.cell? ⟨g11, 1, none⟩ = some (.int .i64 qn) := cell_of_row w2 g11 1 _ _ _ h11
        have y2 : w2.cell? ⟨g11, 2, none⟩ = some (.int .i64 qm) := cell_of_row w2 g11 2 _ _ _ h11
        have y3 : w2.cell? ⟨g11, 3, none⟩ = some (.slice (some ⟨qb2, 0, none⟩) qs qc2) := cell_of_row w2 g11 3 _ _ _ h11
        have y4 : w2.cell? ⟨g11, 4, none⟩ = some (.slice (some ⟨gN', 0, none⟩) qn kN') := cell_of_row w2 g11 4 _ _ _ h11
        have y5 : w2.cell? ⟨g11, 5, none⟩ = some (.slice (some ⟨gJ', 0, none⟩) qn kJ') := cell_of_row w2 g11 5 _ _ _ h11
        have y6 : w2.cell? ⟨g11, 6, none⟩ = some (.slice (some ⟨gF', 0, none⟩) qm kF') := cell_of_row w2 g11 6 _ _ _ h11
        clear hst2 h11 hb2 hRI hbd
        go_wp2_with fail
        go_at_call 26
        refine TU.out.mono ?_
        rintro e w3 ⟨rfl, hst3, hk3⟩
        clear TU y0 y1 y2 y3 y4 y5 y6
        have HK03 := hd (((KeepX.of_below (fun _ => False) HB2.out).trans hk3).mono (Y := fun i => i = gN' ∨ i = gJ' ∨ i = gF') (fun i _ h => h.elim (fun h => h.elim) id))
        have hs3 : W0.heap.size ≤ w3.heap.size := HK03.out.size
        have HE3 := hd (HEW.out.keepX HK03.out HO.out (fun i (hi : i < B0) h => by omega))
        have hgTiW : gTi < W0.heap.size := (World.ownsRow.lt HSW.out.oT gTi rfl).2
        have HS3 := hd (HSW.out.keep HK03.out (by simp only; omega) (by simp only; omega) (by simp only; omega) (by omega) (fun i h1 h2 h => by omega))
        have H113 := hd (hk3.heap H11.out (by simp only; omega))
        have HST3 := hd (show StO ⟨qb, qc, qb2, qc2, qm, qn, qs, gN', gJ', gF', kN', kJ', kF'⟩ w3 W0.heap.size (runR qm ro t (L ++ [i])).N (runR qm ro t (L ++ [i])).J (runR qm ro t (L ++ [i])).F by
          rw [runR_snoc]
          rw [HNJ.out.1, HNJ.out.2.1, HNJ.out.2.2] at hst3
          exact hst3)
        clear hst3 hk3 HST2 H11 HSW HEW HRW H8W
        have cT3 : w3.cell? ⟨xT, 0, none⟩ = some (.slice (some ⟨gTi, 0, none⟩) lL cTi) := by rw [HLl.out]; exact cell_of_row w3 xT 0 _ _ _ HS3.out.hT
        have HOT3 := hd (show OwnE 2 w3 B1 gTi lL cTi (lf L) by rw [HLl.out]; exact HS3.out.oT)
        have HHT3 := hd HS3.out.hT
        have hgTi : B1 ≤ gTi := own_row HOT3.out (Nat.le_refl _) _ rfl
        obtain ⟨hgix, hgi7⟩ : gTi ≠ xT ∧ gTi ≠ x7 := HS3.out.gx
        have hBle : B1 ≤ B0 := HO.out.le
        have hgTi3 : gTi < w3.heap.size := (World.ownsRow.lt HOT3.out gTi rfl).2
        go_wp2_with (first
          | (at_builtin; go_must (refine wpList_app_int _ _ _ rfl _ _ rfl B1 lL _ _ rfl HOT3.out rfl _ rfl (by simp) (by omega) (by omega) ?_); intro v' w4 ho4 hg4 hap4; obtain ⟨gT4, cT4, rfl, hb4, hl4⟩ := own_form ho4 (by omega); have hap5 := apart_blk hap4; have HX4 := hd ((hg4.block xT (by omega) (by intro e; have h9 : xT = gTi := Option.some.inj e; omega)).trans HHT3.out); have HO4 := hd ho4; have HG4 := hd hg4; clear ho4 hg4 hap4)
          | ((with_reducible refine wpList_store_box _ xT _ _ HX4.out size_slI 0 (.slice (some ⟨gT4, 0, none⟩) (lL + 1) cT4) ?_ ?_ ?_ ?_ ?_); exact rfl; exact rfl; exact rfl; exact Nat.one_pos; intro w5 hx5 hg5; have HX5 := hd hx5; have HK35 := hd ((KeepX.of_grown (show w3.grownBy w4 (some gTi) from HG4.out)).trans (KeepX.of_grown hg5)); have HE5 := hd (HE3.out.keep (HK35.out.mono (Y := BX ⟨qb, qc, qb2, qc2, qm, qn, qs, xT, x4, xB, xL, x9, x3, x7, B0, B1⟩ gTi) (fun i _ h => h.elim (fun h => .inr (.inr (.inr h))) (fun h => .inl h))) HO.out ⟨hgTi, hgi7⟩); have H115 := hd (HK35.out.heap H113.out (by omega)); have HO5 := hd (OwnE.kept (show OwnE 2 w4 B1 gT4 (lL + 1) cT4 (lf (L ++ [i])) by unfold OwnE; rw [HLl.out, lf_snoc, List.map_append, ← HLl.out]; exact HO4.out) hg5 (by omega)); have hs45 := hg5.size; have c7 : w5.cell? ⟨x7, 0, none⟩ = some (BK.fv ⟨qb, qc, qb2, qc2, qm, qn, qs, xT, x4, xB, xL, x9, x3, x7, B0, B1⟩) := cell_of_row w5 x7 0 _ _ _ HE5.out.h7; unfold BK.fv at c7; have y0 : w5.cell? ⟨g11, 0, none⟩ = some (.slice (some ⟨qb, 0, none⟩) qs qc) := cell_of_row w5 g11 0 _ _ _ H115.out; have y1 : w5.cell? ⟨g11, 1, none⟩ = some (.int .i64 qn) := cell_of_row w5 g11 1 _ _ _ H115.out; have y2 : w5.cell? ⟨g11, 2, none⟩ = some (.int .i64 qm) := cell_of_row w5 g11 2 _ _ _ H115.out; have y3 : w5.cell? ⟨g11, 3, none⟩ = some (.slice (some ⟨qb2, 0, none⟩) qs qc2) := cell_of_row w5 g11 3 _ _ _ H115.out; have y4 : w5.cell? ⟨g11, 4, none⟩ = some (.slice (some ⟨gN', 0, none⟩) qn kN') := cell_of_row w5 g11 4 _ _ _ H115.out; have y5 : w5.cell? ⟨g11, 5, none⟩ = some (.slice (some ⟨gJ', 0, none⟩) qn kJ') := cell_of_row w5 g11 5 _ _ _ H115.out; have y6 : w5.cell? ⟨g11, 6, none⟩ = some (.slice (some ⟨gF', 0, none⟩) qm kF') := cell_of_row w5 g11 6 _ _ _ H115.out; clear hx5 hg5 cT3))
        have lN' : gN' < w3.heap.size := (World.ownsRow.lt HST3.out.oN gN' rfl).2
        have lJ' : gJ' < w3.heap.size := (World.ownsRow.lt HST3.out.oJ gJ' rfl).2
        have lF' : gF' < w3.heap.size := (World.ownsRow.lt HST3.out.oF gF' rfl).2
        have hlen : (L ++ [i]).length = lL + 1 := by rw [List.length_append, HLl.out]; rfl
        have HS5 := hd (show BSt ⟨qb, qc, qb2, qc2, qm, qn, qs, xT, x4, xB, xL, x9, x3, x7, B0, B1⟩ w5 (L ++ [i]) gT4 cT4 oi lvi from
          ⟨by rw [hlen]; exact HX5.out, by rw [hlen]; exact HO5.out, ⟨by show gT4 ≠ xT; omega, by show gT4 ≠ x7; omega⟩, HK35.out.heap HS3.out.hL (show ¬ (xL = gTi ∨ xL = xT) from fun h => h.elim (fun h => by omega) (fun h => HO.out.nT.2.2.2.2.2.2.2 h)), HS3.out.be.keep HK35.out (show ¬ (xB = gTi ∨ xB = xT) from fun h => h.elim (fun h => by omega) (fun h => HO.out.nT.2.2.2.2.2.2.1 h)) (fun j hj hn _ h => h.elim hn (fun h => by have hj' : B0 ≤ j := hj; omega)) hap5⟩)
        have IHc := hd (HIH.out ⟨qb, qc, qb2, qc2, qm, qn, qs, gN', gJ', gF', kN', kJ', kF'⟩ (L ++ [i]) W0.heap.size gT4 cT4 oi lvi w5 (by have h9 := HD.out; have h10 := HLl.out; simp only; omega) (HLG.out.add hlt2 HCM.out) HE5.out HS5.out ⟨⟨rfl, rfl, rfl, rfl, rfl, rfl, rfl⟩, ⟨by simp only; omega, by simp only; omega, by simp only; omega⟩⟩ hsB0 (HST3.out.keep HK35.out (by simp only; omega) (by simp only; omega) (by simp only; omega)) HOKi.out)
        unfold StK.V at IHc
        simp only at IHc
        clear HS5
        go_at_call 28
        refine IHc.out.mono ?_
        rintro e w6 ⟨⟨z9, rfl⟩, hk6, gT6, cT6, o6, lv6, hs6, hg6, hok6, hle6, hcv6⟩
        clear IHc c7 y0 y1 y2 y3 y4 y5 y6
        have cT6' : w6.cell? ⟨xT, 0, none⟩ = some (.slice (some ⟨gT6, 0, none⟩) (lL + 1) cT6) := by rw [← hlen]; exact cell_of_row w6 xT 0 _ _ _ hs6.hT
        have HT6 := hd hs6.hT
        have HS6 := hd hs6
        have hcap6 : lL + 1 ≤ cT6 := by rw [← hlen]; exact (own_sl hs6.oT (by unfold maxLen; omega)).elim fun A h => h.elim fun c h => by cases h.1; exact h.2.1
        have hcap7 : (lL : Int) ≤ (cT6 : Int) := by omega
        obtain ⟨hg6x, hg67⟩ : gT6 ≠ xT ∧ gT6 ≠ x7 := hs6.gx
        have hwL : IntKind.i64.wrap ((lL : Int) + 1 - 1) = (lL : Int) := by rw [IntWalk.i64_in _ (by omega)]; omega
        have hwL2 : IntKind.i64.wrap (((lL + 1 : Nat) : Int) - 1) = (lL : Int) := by rw [IntWalk.i64_in _ (by omega)]; omega
        have HK6 := hd hk6
        have HG6 := hd hg6
        have HOK6 := hd hok6
        have HLE6 := hd hle6
        have HCV6 := hd hcv6
        clear hk6 hg6 hok6 hle6 hcv6 hs6
        go_wp2_with ((with_reducible refine wpList_store_box _ xT _ _ HT6.out size_slI 0 (.slice (some ⟨gT6, 0, none⟩) lL cT6) ?_ ?_ ?_ ?_ ?_); exact rfl; exact rfl; exact rfl; exact Nat.one_pos; intro w7 hx7 hg7; have HX7 := hd hx7; have HK7 := hd (KeepX.of_grown hg7); clear hx7 hg7)
        have hs35 := HK35.out.size
        have HS7 := hd (show BSt ⟨qb, qc, qb2, qc2, qm, qn, qs, xT, x4, xB, xL, x9, x3, x7, B0, B1⟩ w7 L gT6 cT6 o6 lv6 from
          ⟨by rw [← HLl.out]; exact HX7.out, by
            have h := HS6.out.oT
            rw [hlen] at h
            rw [← HLl.out]
            exact HK7.out.own (OwnE.same (OwnE.shrink h) fun j hj => lf_left L [i] (by rw [← HLl.out]; exact hj)) (show ¬ gT6 = xT by omega), HS6.out.gx, HK7.out.heap HS6.out.hL (show ¬ xL = xT from HO.out.nT.2.2.2.2.2.2.2), HS6.out.be.keep HK7.out (show ¬ xB = xT from HO.out.nT.2.2.2.2.2.2.1) (fun j hj _ _ => show ¬ j = xT by have hj' : B0 ≤ j := hj; omega) (.inl rfl)⟩)
        have HG7 := hd (show gT6 = gT ∨ w1.heap.size ≤ gT6 by
          have h1 := HG6.out
          have h2 := HGi.out
          omega)
        have HC7 := hd (show ∀ j, j < i + 1 → L.count j < qm → CovO qm qn ro t o6 (L ++ [j]) from fun j hj h => by
          by_cases e : j = i
          · subst e; exact HCV6.out
          · exact (HCV.out j (by omega) h).le HLE6.out)
        have HKX7 := hd ((((((HKXW.out.trans HK03.out).trans HK35.out).trans HK6.out).trans HK7.out)).mono (Y := BX ⟨qb, qc, qb2, qc2, qm, qn, qs, xT, x4, xB, xL, x9, x3, x7, B0, B1⟩ gT) (fun j hj h => by
          have hGi := HGi.out
          rcases h with (((h | h) | h) | h) | h
          · exact h
          · omega
          · rcases h with h | h
            · rcases hGi with h1 | h1
              · exact .inr (.inr (.inr (h.trans h1)))
              · omega
            · exact .inl h
          · rcases h with h | h | h | h
            · exact .inl h
            · exact .inr (.inl h)
            · exact .inr (.inr (.inl h))
            · rcases hap5 with h5 | h5
              · rcases hGi with h1 | h1
                · exact .inr (.inr (.inr (h.trans (h5.trans h1))))
                · omega
              · omega
          · exact .inl h))
        clear HK03 HK35 HK6 HK7 HKXW HS6 HX7 HCV HCV6
        go_roundw
        case rel => exact ⟨i + 1, gT6, cT6, o6, lv6, by omega, by go_num, HS7, HG7, HOK6, hd (HLE.out.trans HLE6.out), HC7, HKX7⟩
        case measure => simp [intOf]; omega
    · obtain rfl : qn = i := by omega
      go_wp2
      refine bodyPost_end (results_none rfl _ _ _) rfl ?_
      refine ⟨⟨_, rfl⟩, HKw.out, gTi, cTi, oi, lvi, HSi.out, by have := HGi.out; have := HS1.out; omega, HOKi.out, HLE.out, CovO.node (by rw [← HLl.out, ← HK.out.e]; exact hlt) (fun j hj h => HCV.out j hj h)⟩
theorem put_any (k : BK) (t ro : Nat → Nat) (hO : BOrd k) : ∀ d, PutC k t ro d
  | 0 => fun q L base gT cT o lv w hl hLeg hE hS hq hbase hR hOk => by
    have h1 : L.length = k.s := by omega
    have h2 : k.s = k.n * k.m := hE.T.k.e
    exact put_leaf k t ro q L base gT cT o lv w hE hO hS hq hbase hR hOk h1 (hLeg.full (by rw [h1, h2]))
  | d + 1 => put_node k t ro hO d (put_any k t ro hO d)
end Go.Proofs.Ytkaopdpdfbkchaa
