/- The best turns of a shop: the search's closure, where all turns are given. -/
import Derived.Test.YtkaopdpdfbkchaaShpQ
namespace Go.Proofs.Ytkaopdpdfbkchaa
open Go.RowKit Plain
set_option linter.unusedVariables false
set_option linter.unusedSimpArgs false
attribute [local go_sem ↓] Go.wp_at_zero Go.wp_at_succ
/-- where the search lies -/
structure BK where
  b : Nat
  c : Nat
  b2 : Nat
  c2 : Nat
  m : Nat
  n : Nat
  s : Nat
  xT : Nat
  x4 : Nat
  xB : Nat
  xL : Nat
  x9 : Nat
  x3 : Nat
  x7 : Nat
  B0 : Nat
  B1 : Nat
/-- the blocks that a node may write -/
def BX (k : BK) (gT : Nat) (i : Nat) : Prop := i = k.xT ∨ i = k.xB ∨ i = k.xL ∨ i = gT
structure BOrd (k : BK) : Prop where
  lt1 : k.b < k.B1 ∧ k.b2 < k.B1 ∧ k.x4 < k.B1 ∧ k.x3 < k.B1 ∧ k.x9 < k.B1 ∧ k.xB < k.B1 ∧ k.xL < k.B1
  le : k.B1 ≤ k.B0
  lt : k.b < k.B0 ∧ k.b2 < k.B0 ∧ k.x4 < k.B0 ∧ k.x3 < k.B0 ∧ k.x9 < k.B0 ∧ k.x7 < k.B0 ∧ k.xT < k.B0 ∧ k.xB < k.B0 ∧ k.xL < k.B0
  nT : k.b ≠ k.xT ∧ k.b2 ≠ k.xT ∧ k.x4 ≠ k.xT ∧ k.x3 ≠ k.xT ∧ k.x9 ≠ k.xT ∧ k.x7 ≠ k.xT ∧ k.xB ≠ k.xT ∧ k.xL ≠ k.xT
  nB : k.b ≠ k.xB ∧ k.b2 ≠ k.xB ∧ k.x4 ≠ k.xB ∧ k.x3 ≠ k.xB ∧ k.x9 ≠ k.xB ∧ k.x7 ≠ k.xB ∧ k.xL ≠ k.xB
  nL : k.b ≠ k.xL ∧ k.b2 ≠ k.xL ∧ k.x4 ≠ k.xL ∧ k.x3 ≠ k.xL ∧ k.x9 ≠ k.xL ∧ k.x7 ≠ k.xL
/-- the closure as a value -/
def BK.fv (k : BK) : Value := .func (.func 28) #[] #[.pointer (some ⟨k.xT, 0, none⟩), .pointer (some ⟨k.x4, 0, none⟩), .pointer (some ⟨k.xB, 0, none⟩), .pointer (some ⟨k.xL, 0, none⟩), .pointer (some ⟨k.x9, 0, none⟩), .pointer (some ⟨k.x3, 0, none⟩), .pointer (some ⟨k.x7, 0, none⟩)]
/-- what stands fast -/
structure BEnv (k : BK) (w : World) (t ro : Nat → Nat) : Prop where
  T : ShT w k.b k.c k.m k.n k.s t
  R : RtT w k.b2 k.c2 k.m k.n k.s ro
  h4 : w.heap[k.x4]? = some (.cells #[.slice (some ⟨k.b, 0, none⟩) k.s k.c] 25 (0, 0))
  h3 : w.heap[k.x3]? = some (.cells #[.slice (some ⟨k.b2, 0, none⟩) k.s k.c2] 25 (0, 0))
  h9 : w.heap[k.x9]? = some (.cells #[.slice (some ⟨k.b, 0, none⟩) k.s k.c, .int .i64 k.n, .int .i64 k.m] 42 (0, 0))
  h7 : w.heap[k.x7]? = some (.cells #[k.fv] 58 (0, 0))
theorem BEnv.keep {k : BK} {w w' : World} {t ro : Nat → Nat} {gT : Nat} (h : BEnv k w t ro) (hk : KeepX (BX k gT) w w') (ho : BOrd k) (hg : k.B1 ≤ gT ∧ gT ≠ k.x7) : BEnv k w' t ro := by
  obtain ⟨a1, a2, a3, a4, a5, a6, a7⟩ := ho.lt1
  obtain ⟨b1, b2, b3, b4, b5, b6, b7, b8⟩ := ho.nT
  obtain ⟨c1, c2, c3, c4, c5, c6, c7⟩ := ho.nB
  obtain ⟨d1, d2, d3, d4, d5, d6⟩ := ho.nL
  obtain ⟨g1, g2⟩ := hg
  have nx : ∀ i, i ≠ gT → i ≠ k.xT → i ≠ k.xB → i ≠ k.xL → ¬ BX k gT i := fun i h1 h2 h3 h4 h => by
    rcases h with h | h | h | h
    · exact h2 h
    · exact h3 h
    · exact h4 h
    · exact h1 h
  exact ⟨⟨h.T.k, h.T.r, hk.fa h.T.f (nx _ (by omega) b1 c1 d1)⟩, ⟨hk.fa h.R.f (nx _ (by omega) b2 c2 d2), h.R.p⟩, hk.heap h.h4 (nx _ (by omega) b3 c3 d3), hk.heap h.h3 (nx _ (by omega) b4 c4 d4), hk.heap h.h9 (nx _ (by omega) b5 c5 d5), hk.heap h.h7 (nx _ (fun e => g2 e.symm) b6 c6 d6)⟩
theorem BEnv.below {k : BK} {w w' : World} {t ro : Nat → Nat} (h : BEnv k w t ro) (hb : Below w.heap.size w w') : BEnv k w' t ro := by
  have hk := KeepX.of_below (fun _ => False) hb
  exact ⟨h.T.below hb, h.R.below hb, hk.heap h.h4 id, hk.heap h.h3 id, hk.heap h.h9 id, hk.heap h.h7 id⟩
/-- what the search has: the turns so far, the best -/
def BestAt (k : BK) (w : World) (gT : Nat) (lv : Int) : BestT → Prop
  | none => w.heap[k.xB]? = some (.cells #[.slice none 0 0] 25 (0, 0))
  | some (L, l) => lv = (l : Int) ∧ ∃ g c, w.heap[k.xB]? = some (.cells #[.slice (some ⟨g, 0, none⟩) k.s c] 25 (0, 0)) ∧ OwnE 2 w k.B0 g k.s c (lf L) ∧ g ≠ gT
structure BSt (k : BK) (w : World) (L : List Nat) (gT cT : Nat) (o : BestT) (lv : Int) : Prop where
  hT : w.heap[k.xT]? = some (.cells #[.slice (some ⟨gT, 0, none⟩) L.length cT] 25 (0, 0))
  oT : OwnE 2 w k.B1 gT L.length cT (lf L)
  gx : gT ≠ k.xT ∧ gT ≠ k.x7
  hL : w.heap[k.xL]? = some (.cells #[.int .i64 lv] 2 (0, 0))
  be : BestAt k w gT lv o
theorem BestAt.keep {k : BK} {w w' : World} {X : Nat → Prop} {gT gT' : Nat} {lv : Int} {o : BestT} (h : BestAt k w gT lv o) (hk : KeepX X w w') (hB : ¬ X k.xB) (hx : ∀ i, k.B0 ≤ i → i ≠ gT → i < w.heap.size → ¬ X i) (hg : gT' = gT ∨ w.heap.size ≤ gT') : BestAt k w' gT' lv o := by
  cases o with
  | none => exact hk.heap h hB
  | some p =>
    obtain ⟨L, l⟩ := p
    obtain ⟨h1, g, c, h2, h3, h4⟩ := h
    have hgs : g < w.heap.size := (World.ownsRow.lt h3 g rfl).2
    exact ⟨h1, g, c, hk.heap h2 hB, hk.own h3 (hx g (own_row h3 (Nat.le_refl _) _ rfl) h4 hgs), by omega⟩
/-- what a node leaves -/
def PutOut (k : BK) (t ro : Nat → Nat) (L : List Nat) (gT : Nat) (o : BestT) (w : World) (e : Ending) (w' : World) : Prop :=
  (∃ z, e = .returned z) ∧ KeepX (BX k gT) w w' ∧ ∃ gT' cT' o' lv', BSt k w' L gT' cT' o' lv' ∧ (gT' = gT ∨ w.heap.size ≤ gT') ∧ OkO k.m k.n ro t o' ∧ LeO o o' ∧ CovO k.m k.n ro t o' L
/-- a node's state, at the search's places -/
structure NodeS (k : BK) (q : StK) (gT : Nat) : Prop where
  e : q.b = k.b ∧ q.c = k.c ∧ q.b2 = k.b2 ∧ q.c2 = k.c2 ∧ q.m = k.m ∧ q.n = k.n ∧ q.s = k.s
  d : q.gN ≠ gT ∧ q.gJ ≠ gT ∧ q.gF ≠ gT
theorem size_slI : (Try.prog.info? 25).map (·.size) = some 1 := by kernel_rfl
set_option maxRecDepth 100000 in
set_option maxHeartbeats 4000000 in
theorem put_leaf (k : BK) (t ro : Nat → Nat) (q : StK) (L : List Nat) (base gT cT : Nat) (o : BestT) (lv : Int) (w : World) (hE : BEnv k w t ro) (hO : BOrd k) (hS : BSt k w L gT cT o lv) (hq : NodeS k q gT) (hbase : k.B0 ≤ base) (hR : StO q w base (runR k.m ro t L).N (runR k.m ro t L).J (runR k.m ro t L).F) (hOk : OkO k.m k.n ro t o) (hl : L.length = k.s) (hF : FullR k.m k.n L) :
    Calls Try.prog 28 #[q.V, .pointer (some ⟨k.xT, 0, none⟩), .pointer (some ⟨k.x4, 0, none⟩), .pointer (some ⟨k.xB, 0, none⟩), .pointer (some ⟨k.xL, 0, none⟩), .pointer (some ⟨k.x9, 0, none⟩), .pointer (some ⟨k.x3, 0, none⟩), .pointer (some ⟨k.x7, 0, none⟩)] w (PutOut k t ro L gT o w) := by
  obtain ⟨b, c, b2, c2, m, n, s, xT, x4, xB, xL, x9, x3, x7, B0, B1⟩ := k
  obtain ⟨qb, qc, qb2, qc2, qm, qn, qs, gN, gJ, gF, kN, kJ, kF⟩ := q
  obtain ⟨e1, e2, e3, e4, e5, e6, e7⟩ := hq.e
  simp only at e1 e2 e3 e4 e5 e6 e7
  subst e1; subst e2; subst e3; subst e4; subst e5; subst e6; subst e7
  have hK : ShK qm qn qs := hE.T.k
  have m1 := hK.m1
  have m3 := hK.m3
  have s8 := hK.s8
  have s1 := hK.s1
  simp only at hl
  have hll : L.length = qn * qm := by rw [hl, hK.e]
  have HLL := hd hll
  obtain ⟨M, hM⟩ := endR_ex (runR qm ro t L).F qm m1
  have hT : w.heap[xT]? = some (.cells #[.slice (some ⟨gT, 0, none⟩) L.length cT] 25 (0, 0)) := hS.hT
  have oT : OwnE 2 w B1 gT L.length cT (lf L) := hS.oT
  have hLl : w.heap[xL]? = some (.cells #[.int .i64 lv] 2 (0, 0)) := hS.hL
  have hbe := hS.be
  have h4 : w.heap[x4]? = some (.cells #[.slice (some ⟨qb, 0, none⟩) qs qc] 25 (0, 0)) := hE.h4
  rw [hl] at hT oT
  have oF : OwnE 2 w base gF qm kF (natF (runR qm ro t L).F) := hR.oF
  obtain ⟨hlT, hlB, hlLb⟩ : xT < B0 ∧ xB < B0 ∧ xL < B0 := ⟨hO.lt.2.2.2.2.2.2.1, hO.lt.2.2.2.2.2.2.2.1, hO.lt.2.2.2.2.2.2.2.2⟩
  have nTB : xB ≠ xT := hO.nT.2.2.2.2.2.2.1
  have nTL : xL ≠ xT := hO.nT.2.2.2.2.2.2.2
  have nBL : xL ≠ xB := hO.nB.2.2.2.2.2.2
  have hgT : B1 ≤ gT := own_row oT (Nat.le_refl _) _ rfl
  obtain ⟨hgx, hgx7⟩ : gT ≠ xT ∧ gT ≠ x7 := hS.gx
  have HGX := hd (show gT ≠ xT ∧ gT ≠ x7 from ⟨hgx, hgx7⟩)
  obtain ⟨hl1B, hl1L⟩ : xB < B1 ∧ xL < B1 := ⟨hO.lt1.2.2.2.2.2.1, hO.lt1.2.2.2.2.2.2⟩
  have hsB0 : B0 ≤ w.heap.size := Nat.le_of_lt (Nat.lt_of_le_of_lt (Nat.le_trans hbase (own_row hR.oF (Nat.le_refl _) _ rfl)) (World.ownsRow.lt hR.oF gF rfl).2)
  have hgTs : gT < w.heap.size := (World.ownsRow.lt oT gT rfl).2
  have hF' : FullR qm qn L := hF
  have HF := hd hF'
  have HM := hd hM
  have HOK := hd hOk
  have HK := hd hK
  have HLf := hd (show L.length = qs from hl)
  clear hll hl hF hF' hOk hS hE hO hR hq hK hbase
  unfold StK.V
  go_enter Try.func28, Try.ntmps28
  obtain ⟨g8, hg8⟩ : ∃ g8, g8 = w.heap.size := ⟨_, rfl⟩
  have HG8 := hd hg8
  obtain ⟨w1, hw1⟩ : ∃ w1, w1 = w.alloc (.cells #[.slice (some ⟨qb, 0, none⟩) qs qc, .int .i64 qn, .int .i64 qm, .slice (some ⟨qb2, 0, none⟩) qs qc2, .slice (some ⟨gN, 0, none⟩) qn kN, .slice (some ⟨gJ, 0, none⟩) qn kJ, .slice (some ⟨gF, 0, none⟩) qm kF] 54) := ⟨_, rfl⟩
  have hh : w1.heap[g8]? = some (.cells #[.slice (some ⟨qb, 0, none⟩) qs qc, .int .i64 qn, .int .i64 qm, .slice (some ⟨qb2, 0, none⟩) qs qc2, .slice (some ⟨gN, 0, none⟩) qn kN, .slice (some ⟨gJ, 0, none⟩) qn kJ, .slice (some ⟨gF, 0, none⟩) qm kF] 54 (0, 0)) := by rw [hw1, hg8]; exact heap_alloc_new _ _
  have hb1 : Below w.heap.size w w1 := by rw [hw1]; go_grown
  have cT1 := below_at hb1 (cell_of_row w xT 0 _ _ _ hT)
  have c41 := below_at hb1 (cell_of_row w x4 0 _ _ _ h4)
  have cL1 := below_at hb1 (cell_of_row w xL 0 _ _ _ hLl)
  have c6 : w1.cell? ⟨g8, 6, none⟩ = some (.slice (some ⟨gF, 0, none⟩) qm kF) := (cell_of_row _ g8 6 _ _ _ hh).trans rfl
  have SMX := hd (slicesMax_any (.slice (some ⟨gF, 0, none⟩) qm kF) (fL qm (natF (runR qm ro t L).F)) w1 ((OwnE.fa (own_below oF hb1) (by omega)).slf (by omega)) (by rw [fL_len]; omega))
  rw [maxTo_is (m := (M : Int)) (fun k hk => by have := hM.1 k hk; unfold natF; omega) (by obtain ⟨k, h1, h2⟩ := hM.2; exact ⟨k, h1, by unfold natF; omega⟩)] at SMX
  have CL := hd (CloneF gT 0 cT qs (lf L) w1 (OwnE.fa (own_below oT hb1) (by omega)) s1 (by omega))
  have HT1 := hd (hb1.block xT (by omega) |>.trans hT)
  have HL1 := hd (hb1.block xL (by omega) |>.trans hLl)
  have HBE := hd hbe
  have HB1 := hd hb1
  have HOT := hd oT
  replace cT1 : w1.cell? ⟨xT, 0, none⟩ = some (.slice (some ⟨gT, 0, none⟩) qs cT) := cT1
  replace c41 : w1.cell? ⟨x4, 0, none⟩ = some (.slice (some ⟨qb, 0, none⟩) qs qc) := c41
  replace cL1 : w1.cell? ⟨xL, 0, none⟩ = some (.int .i64 lv) := cL1
  clear hbe oF hT hLl h4 oT hM hh hb1
  go_upto_region 1 with fail
  rw [← hg8, ← hw1]
  clear hw1 hg8
  go_wp2_with fail
  go_at_call 19
  refine SMX.out.mono ?_; rintro e w' ⟨rfl, hw⟩; subst hw
  clear SMX c6
  obtain ⟨V, hV⟩ : ∃ V : Bool, V = true ↔ (o = none ∨ ∃ L l, o = some (L, l) ∧ M < l) := by
    by_cases h : o = none ∨ ∃ L l, o = some (L, l) ∧ M < l
    · exact ⟨true, by simp [h]⟩
    · exact ⟨false, by simp only [Bool.false_eq_true, false_iff]; exact h⟩
  have HV := hd hV
  clear hV
  go_upto_region 3 with fail
  go_cut [26] from 20 to 26 (fun c wx => c = .bool V ∧ wx = w1)
  case first =>
    cases o with
    | none =>
      have cB : w1.cell? ⟨xB, 0, none⟩ = some (.slice none 0 0) := below_at HB1.out (cell_of_row w xB 0 _ _ _ HBE.out)
      have he : ∀ w : World, (binOp .eql 25 (.slice none 0 0) (.slice none 0 0)).run Try.prog w = .ok (.bool true) w := fun _ => rfl
      have hv := hd (show V = true from HV.out.2 (.inl rfl))
      go_wp2
      go_meet
      exact ⟨by rw [hv.out], rfl⟩
    | some p =>
      obtain ⟨L0, l0⟩ := p
      obtain ⟨hlv, g, cc, hB, hob, hgn⟩ := HBE.out
      have cB : w1.cell? ⟨xB, 0, none⟩ = some (.slice (some ⟨g, 0, none⟩) qs cc) := below_at HB1.out (cell_of_row w xB 0 _ _ _ hB)
      have he : ∀ w : World, (binOp .eql 25 (.slice (some ⟨g, 0, none⟩) qs cc) (.slice none 0 0)).run Try.prog w = .ok (.bool false) w := fun _ => rfl
      subst hlv
      clear hB hob hgn
      by_cases hlt : M < l0
      · have hv := hd (show V = true from HV.out.2 (.inr ⟨L0, l0, rfl, hlt⟩))
        have hli : (M : Int) < (l0 : Int) := by omega
        clear hlt
        go_wp2
        go_meet
        exact ⟨by rw [hv.out], rfl⟩
      · have hv := hd (show V = false from by
          cases V with
          | false => rfl
          | true =>
            rcases HV.out.1 rfl with h | ⟨L, l, h, h2⟩
            · cases h
            · cases h; exact absurd h2 hlt)
        have hli : ¬ (M : Int) < (l0 : Int) := by omega
        clear hlt
        go_wp2
        go_meet
        exact ⟨by rw [hv.out], rfl⟩
  case rest =>
  obtain ⟨rfl, hw⟩ := hcut
  replace hw := hw.symm
  subst hw
  cases V with
  | false =>
    have HN := hd (show ∃ L0 l0, o = some (L0, l0) ∧ l0 ≤ M from by
      cases o with
      | none => have := HV.out.2 (.inl rfl); cases this
      | some p =>
        obtain ⟨L0, l0⟩ := p
        refine ⟨L0, l0, rfl, Nat.le_of_not_lt fun h => ?_⟩
        have := HV.out.2 (.inr ⟨L0, l0, rfl, h⟩)
        cases this)
    clear HV
    go_wp2
    refine bodyPost_end (results_none rfl _ _ _) rfl ?_
    obtain ⟨L0, l0, ho, hle⟩ := HN.out
    refine ⟨⟨_, rfl⟩, KeepX.of_below _ HB1.out, gT, cT, o, lv, ⟨by rw [HLf.out]; exact HT1.out, by rw [HLf.out]; exact own_below HOT.out HB1.out, HGX.out, HL1.out, HBE.out.keep (KeepX.of_below (fun _ => False) HB1.out) id (fun _ _ _ _ => id) (.inl rfl)⟩, .inl rfl, HOK.out, LeO.refl o, CovO.leaf HLL.out HM.out ho hle⟩
  | true =>
    have HN := hd (show ∀ L0 l0, o = some (L0, l0) → M ≤ l0 from fun L0 l0 h => by
      rcases HV.out.1 rfl with h1 | ⟨L, l, h1, h2⟩
      · rw [h] at h1; cases h1
      · rw [h] at h1; cases h1; omega)
    clear HV
    obtain ⟨old, hold⟩ : ∃ old, w.heap[xB]? = some (.cells #[old] 25 (0, 0)) := by
      cases o with
      | none => exact ⟨_, HBE.out⟩
      | some p =>
        obtain ⟨L0, l0⟩ := p
        obtain ⟨_, g, cc, hB, _⟩ := HBE.out
        exact ⟨_, hB⟩
    have HOLD := hd hold
    clear hold
    go_wp2_with fail
    go_at_call 29
    refine CL.out.mono ?_; rintro e w2 ⟨gu, cu, rfl, ho2, hb2⟩
    clear CL cT1 c41 cL1
    have HB2 := hd (below_tr hb2 HB1.out)
    have HO2 := hd ho2
    have hgu : w1.heap.size ≤ gu := own_row ho2 (Nat.le_refl _) _ rfl
    have hgu2 : gu < w2.heap.size := (World.ownsRow.lt ho2 gu rfl).2
    have hs01 := HB1.out.size
    have HX2 := hd ((HB2.out.block xB (by omega)).trans HOLD.out)
    have HL2 := hd ((hb2.block xL (by omega)).trans HL1.out)
    have HT2 := hd ((hb2.block xT (by omega)).trans HT1.out)
    clear hb2 ho2
    go_wp2_with (first
      | ((with_reducible refine wpList_store_box _ xB _ _ HX2.out size_slI 0 (.slice (some ⟨gu, 0, none⟩) qs cu) ?_ ?_ ?_ ?_ ?_); exact rfl; exact rfl; exact rfl; exact Nat.one_pos; intro w5 hx5 hg5; have HX5 := hd ((hg5.block xL (by have := HB2.out.size; omega) (by intro e; have := Option.some.inj e; omega)).trans HL2.out); have HG5 := hd hg5; have HY5 := hd hx5; clear hg5 hx5)
      | ((with_reducible refine wpList_store_box _ xL _ _ HX5.out size_int 0 (.int .i64 (M : Int)) ?_ ?_ ?_ ?_ ?_); exact rfl; exact rfl; exact rfl; exact Nat.one_pos; intro w6 hx6 hg6))
    have hs5 := HG5.out.size
    have hs2 := HB2.out.size
    have hx6' : w6.heap[xL]? = some (.cells #[.int .i64 (M : Int)] 2 (0, 0)) := hx6
    have hxB : w6.heap[xB]? = some (.cells #[.slice (some ⟨gu, 0, none⟩) qs cu] 25 (0, 0)) := (hg6.block xB (by omega) (by intro e; have := Option.some.inj e; omega)).trans HY5.out
    have hxT : w6.heap[xT]? = some (.cells #[.slice (some ⟨gT, 0, none⟩) qs cT] 25 (0, 0)) := (hg6.block xT (by omega) (by intro e; have := Option.some.inj e; omega)).trans ((HG5.out.block xT (by omega) (by intro e; have := Option.some.inj e; omega)).trans HT2.out)
    have hoT := OwnE.kept (OwnE.kept (own_below HOT.out HB2.out : OwnE 2 w2 B1 gT qs cT (lf L)) HG5.out (by omega)) hg6 (by omega)
    have hou := OwnE.kept (OwnE.kept (own_mono HO2.out (by omega) : OwnE 2 w2 B0 gu qs cu (lf L)) HG5.out (by omega)) hg6 (by omega)
    have hk := ((KeepX.of_below (BX ⟨qb, qc, qb2, qc2, qm, qn, qs, xT, x4, xB, xL, x9, x3, x7, B0, B1⟩ gT) HB2.out).trans (KeepX.of_grown HG5.out)).trans (KeepX.of_grown hg6)
    refine bodyPost_end (results_none rfl _ _ _) rfl ?_
    refine ⟨⟨_, rfl⟩, hk.mono (fun i _ h => ?_), gT, cT, some (L, M), (M : Int), ⟨by rw [HLf.out]; exact hxT, by rw [HLf.out]; exact hoT, HGX.out, hx6', rfl, gu, cu, hxB, hou, by omega⟩, .inl rfl, fun L' l' h => by cases h; exact ⟨HF.out, HM.out⟩, fun L0 l0 h => ⟨L, M, rfl, HN.out L0 l0 h⟩, CovO.leaf HLL.out HM.out rfl (Nat.le_refl _)⟩
    rcases h with (h | h) | h
    · exact h
    · exact .inr (.inl h)
    · exact .inr (.inr (.inl h))
end Go.Proofs.Ytkaopdpdfbkchaa
