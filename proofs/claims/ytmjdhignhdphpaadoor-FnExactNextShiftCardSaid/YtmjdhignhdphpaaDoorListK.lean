/- Shifts listed, the reference's side. -/
import Derived.Test.YtmjdhignhdphpaaDoorProg
import Derived.Test.YtmjdhignhdphpaaDoorListT
import Derived.Test.YtmjdhignhdphpaaDoorShiftK
import Derived.Test.YtmjdhignhdphpaaDoorShiftM
import Derived.Test.YtmjdhignhdphpaaDoorStrS
import Derived.Test.YtmjdhignhdphpaaDoorApp
import Derived.Sort.AtCall
import Derived.Deep.RegionWith
import Derived.Lib.SliceRun
namespace Go.Proofs.YtmjdhignhdphpaaDoor
open Go.RowKit Plain
set_option linter.unusedVariables false
set_option linter.unusedSimpArgs false
attribute [local go_sem ↓] Go.wp_at_zero Go.wp_at_succ

theorem size_place : (Tryd.prog.info? 41).map (·.size) = some 3 := by kernel_rfl
theorem cbox3 {w : World} {g : Nat} {a b c : Value} {t : TypeId} (h : CBox w g #[a, b, c] t) : w.cell? ⟨g, 0, none⟩ = some a ∧ w.cell? ⟨g, 1, none⟩ = some b ∧ w.cell? ⟨g, 2, none⟩ = some c := ⟨cbox_cell h 0, cbox_cell h 1, cbox_cell h 2⟩
theorem one3 {a b c : Int} : (#[Value.int .i64 a, Value.int .i64 b, Value.int .i64 c] : Array Value).all (·.oneCell') = true := by simp [Value.oneCell']
set_option maxHeartbeats 2000000 in
set_option maxRecDepth 100000 in
theorem reach_any (g o : Nat) (R : SR) (w : World) (hr : SRat w g o R) (b3 : 0 ≤ R.most ∧ R.most ≤ 24) (b4 : 1 ≤ R.row ∧ R.row ≤ 24) (b5 : 1 ≤ R.pause ∧ R.pause ≤ 24) (a b c : Int) (hok : okR (limS R) ⟨a, b, c⟩) (m : Nat) (hm : c + m ≤ 24) (hm2 : m ≤ 24) :
    Calls Tryd.prog 23 #[.pointer (some ⟨g, o, none⟩), .agg #[.int .i64 a, .int .i64 b, .int .i64 c], .int .i64 m] w fun e w' => e = .returned (.int .i64 (reachS (limS R) m ⟨a, b, c⟩)) ∧ Below w.heap.size w w' := by
  have HR := hd hr
  have HOK := hd hok
  have HS := hd (show 0 + reachS (limS R) m ⟨a, b, c⟩ = reachS (limS R) m ⟨a, b, c⟩ by omega)
  have RL := hd (reach_le (limS R) m ⟨a, b, c⟩)
  have MI := hd (fun s => may_iff (L := limS R) (p := s))
  have R0 := hd (fun s => (show reachS (limS R) 0 s = 0 by rw [reachS]))
  have RY := hd (fun k s (h : s.may (limS R) = true) => (show reachS (limS R) (k + 1) s = 1 + reachS (limS R) k s.on by rw [reachS, if_pos h]))
  have RN := hd (fun k s (h : s.may (limS R) = false) => (show reachS (limS R) (k + 1) s = reachS (limS R) k s.offR by rw [reachS, h]; rfl))
  have OON := hd (fun s h h2 => okR_on (L := limS R) (s := s) h h2)
  have OOF := hd (fun s h => okR_off (L := limS R) (by show 0 ≤ R.row; omega) (s := s) h)
  clear hr hok
  go_enter Tryd.func23, Tryd.ntmps23
  go_wp2
  go_loopw [2, 7] (fun lf ct wr => ∃ (k n : Nat) (x y z : Int), k ≤ m ∧ lf = .int .i64 k ∧ ct = .int .i64 n ∧ Hid (n + reachS (limS R) k ⟨x, y, z⟩ = reachS (limS R) m ⟨a, b, c⟩) ∧ Hid (okR (limS R) ⟨x, y, z⟩) ∧ z + k ≤ 24 ∧ Hid (CBox wr w.heap.size #[.int .i64 x, .int .i64 y, .int .i64 z] 41) ∧ Hid (Below w.heap.size w wr)) (fun lf _ _ => (intOf lf).toNat)
  case atStart => exact ⟨m, 0, a, b, c, Nat.le_refl _, rfl, rfl, HS, HOK, hm, hd (by unfold CBox; simp only [heap_alloc_get]; simp), hd (by go_grown)⟩
  case round =>
    clear HS HOK
    obtain ⟨k, n, x, y, z, hk, rfl, rfl, HE, HO, hz, HC, HB⟩ := hrel
    cases k with
    | zero =>
      have E := hd (show n = reachS (limS R) m ⟨a, b, c⟩ by have := HE.out; rw [R0.out] at this; omega)
      go_wp2
      go_ret
      exact ⟨by rw [← E.out]; rfl, HB.out⟩
    | succ k =>
      have hgt : (0 : Int) < ((k + 1 : Nat) : Int) := by omega
      have hk1 : IntKind.i64.wrap (((k + 1 : Nat) : Int) - 1) = (k : Int) := by rw [IntWalk.i64_in _ (by omega)]; omega
      have hn : n ≤ 24 := by have := HE.out; have := RL.out; omega
      have hn1 : IntKind.i64.wrap ((n : Int) + 1) = ((n + 1 : Nat) : Int) := by rw [IntWalk.i64_in _ (by omega)]; push_cast; rfl
      obtain ⟨c0, c1, c2⟩ := cbox3 HC.out
      have GF := hd (fun w' => goes_free g o x y z (HO.out.f0) (by omega) w')
      have GN := hd (fun w' (h : Below w.heap.size w w') h0 h1 => goes_no g o R x y z w' ⟨below_at h HR.out.c0, below_at h HR.out.c1, below_at h HR.out.c2, below_at h HR.out.c3, below_at h HR.out.c4⟩ h0 h1)
      have GY := hd (fun w' (h : Below w.heap.size w w') h0 => goes_yes g o R x y z w' ⟨below_at h HR.out.c0, below_at h HR.out.c1, below_at h HR.out.c2, below_at h HR.out.c3, below_at h HR.out.c4⟩ HO.out.w0 (by have := HO.out.w1; change x ≤ R.most at this; omega) HO.out.r0 (by have := HO.out.r1; change y ≤ R.row at this; omega) h0)
      cases hmay : (⟨x, y, z⟩ : ShiftPt).may (limS R) with
      | true =>
        obtain ⟨m0, m1, m2⟩ := (MI.out _).1 hmay
        simp only [limS] at m0 m1 m2
        have GY2 := hd (fun w' h => GY.out w' h (by rw [Bool.and_eq_false_iff]; simp only [decide_eq_false_iff_not]; omega))
        rw [decide_eq_true m1, decide_eq_true m2] at GY2
        have E := hd (RY.out k _ hmay)
        have HO2 := hd (OON.out _ HO.out hmay)
        clear hmay GF GN GY
        go_wp2_with (first
          | (go_at_call 20; refine (GY2.out _ HB.out).mono ?_; rintro e w1 ⟨rfl, hb1⟩; have HC1 := hd (cbox_below HC.out hb1); have HB1 := hd (below_tr hb1 HB.out); have HCA := hd (show (w1.alloc (.cells #[.int .i64 (x + 1), .int .i64 (y + 1), .int .i64 0] 41)).heap[w.heap.size]? = some (.cells #[.int .i64 x, .int .i64 y, .int .i64 z] 41 (0, 0)) from cbox_below HC1.out ((Below.refl _ _).alloc (Nat.le_refl _) _)); clear hb1)
          | ((with_reducible refine wpList_store_rec _ w.heap.size _ #[.int .i64 (x + 1), .int .i64 (y + 1), .int .i64 0] 41 HCA.out ?_ ?_ ?_ ?_ ?_ ?_); exact size_place; exact rfl; exact one3; exact rfl; exact rfl; intro w2 hx2 hg2))
        go_roundw
        case rel => exact ⟨k, n + 1, x + 1, y + 1, 0, by omega, by go_num, by go_num, hd (by have := HE.out; rw [E.out] at this; show n + 1 + reachS (limS R) k ⟨x + 1, y + 1, 0⟩ = _; change n + (1 + reachS (limS R) k ⟨x + 1, y + 1, 0⟩) = _ at this; omega), HO2, by omega, hd hx2, hd (below_row hg2 (HB1.out.alloc HB1.out.size _) (fun q hq => by cases hq; exact Nat.le_refl _))⟩
        case measure => simp [intOf]
      | false =>
        have E := hd (RN.out k _ hmay)
        have HO2 := hd (OOF.out _ HO.out)
        have hzz : (if 0 ≤ z then z + 1 else z) + k ≤ 24 := by split <;> omega
        obtain ⟨z2, hz2⟩ : ∃ z2, z2 = if 0 ≤ z then z + 1 else z := ⟨_, rfl⟩
        rw [← hz2] at GF hzz
        have HOF := hd (show (⟨x, y, z⟩ : ShiftPt).offR = ⟨x, 0, z2⟩ by rw [hz2]; rfl)
        rw [HOF.out] at E HO2
        clear hz2
        by_cases hp : 0 < z ∧ z < R.pause
        · have GN2 := hd (fun w' h => GN.out w' h hp.1 hp.2)
          clear GN GY hmay
          go_wp2_with (first
            | (go_at_call_has 20 (Value.bool true); refine (GN2.out _ HB.out).mono ?_; rintro e w1 ⟨rfl, hb1⟩; have HC1 := hd (cbox_below HC.out hb1); have HB1 := hd (below_tr hb1 HB.out); have HC2 := hd (show CBox (w1.alloc (.cells #[.int .i64 x, .int .i64 y, .int .i64 z] 41)) w.heap.size #[.int .i64 x, .int .i64 y, .int .i64 z] 41 from cbox_below HC1.out ((Below.refl _ _).alloc (Nat.le_refl _) _)); obtain ⟨e0, e1, e2⟩ := cbox3 HC2.out; clear hb1 c0 c1 c2)
            | (go_at_call_has 20 (Value.bool false); refine (GF.out _).mono ?_; rintro e w2 ⟨rfl, hb2⟩; have HB2 := hd (below_tr hb2 (HB1.out.alloc HB1.out.size _)); have HCA := hd (show (w2.alloc (.cells #[.int .i64 x, .int .i64 0, .int .i64 z2] 41)).heap[w.heap.size]? = some (.cells #[.int .i64 x, .int .i64 y, .int .i64 z] 41 (0, 0)) from cbox_below (cbox_below HC2.out hb2) ((Below.refl _ _).alloc (Nat.le_refl _) _)); clear hb2)
            | ((with_reducible refine wpList_store_rec _ w.heap.size _ #[.int .i64 x, .int .i64 0, .int .i64 z2] 41 HCA.out ?_ ?_ ?_ ?_ ?_ ?_); exact size_place; exact rfl; exact one3; exact rfl; exact rfl; intro w3 hx3 hg3))
          go_roundw
          case rel => exact ⟨k, n, x, 0, z2, by omega, by go_num, rfl, hd (by have := HE.out; rw [E.out] at this; exact this), HO2, by omega, hd hx3, hd (below_row hg3 (HB2.out.alloc HB2.out.size _) (fun q hq => by cases hq; exact Nat.le_refl _))⟩
          case measure => simp [intOf]
        · have hno : (decide (x + 1 ≤ R.most) && decide (y + 1 ≤ R.row)) = false := by
            rw [Bool.eq_false_iff]
            intro h
            simp only [Bool.and_eq_true, decide_eq_true_eq] at h
            have := (MI.out ⟨x, y, z⟩).2 ⟨hp, h.1, h.2⟩
            rw [hmay] at this; cases this
          have GY2 := hd (fun w' h => GY.out w' h (by rw [Bool.and_eq_false_iff]; simp only [decide_eq_false_iff_not]; omega))
          rw [hno] at GY2
          clear GN GY hmay hno
          go_wp2_with (first
            | (go_at_call_has 20 (Value.bool true); refine (GY2.out _ HB.out).mono ?_; rintro e w1 ⟨rfl, hb1⟩; have HC1 := hd (cbox_below HC.out hb1); have HB1 := hd (below_tr hb1 HB.out); have HC2 := hd (show CBox (w1.alloc (.cells #[.int .i64 (x + 1), .int .i64 (y + 1), .int .i64 0] 41)) w.heap.size #[.int .i64 x, .int .i64 y, .int .i64 z] 41 from cbox_below HC1.out ((Below.refl _ _).alloc (Nat.le_refl _) _)); obtain ⟨e0, e1, e2⟩ := cbox3 HC2.out; clear hb1 c0 c1 c2)
            | (go_at_call_has 20 (Value.bool false); refine (GF.out _).mono ?_; rintro e w2 ⟨rfl, hb2⟩; have HB2 := hd (below_tr hb2 (HB1.out.alloc HB1.out.size _)); have HCA := hd (show (w2.alloc (.cells #[.int .i64 x, .int .i64 0, .int .i64 z2] 41)).heap[w.heap.size]? = some (.cells #[.int .i64 x, .int .i64 y, .int .i64 z] 41 (0, 0)) from cbox_below (cbox_below HC2.out hb2) ((Below.refl _ _).alloc (Nat.le_refl _) _)); clear hb2)
            | ((with_reducible refine wpList_store_rec _ w.heap.size _ #[.int .i64 x, .int .i64 0, .int .i64 z2] 41 HCA.out ?_ ?_ ?_ ?_ ?_ ?_); exact size_place; exact rfl; exact one3; exact rfl; exact rfl; intro w3 hx3 hg3))
          go_roundw
          case rel => exact ⟨k, n, x, 0, z2, by omega, by go_num, rfl, hd (by have := HE.out; rw [E.out] at this; exact this), HO2, by omega, hd hx3, hd (below_row hg3 (HB2.out.alloc HB2.out.size _) (fun q hq => by cases hq; exact Nat.le_refl _))⟩
          case measure => simp [intOf]
/-- what a listing leaves of old memory: all but a map's block and the list's own -/
structure Grew (w w' : World) (b : Option Nat) (v : Value) : Prop where
  os : w'.os = w.os
  tape : w'.tape = w.tape
  output : w'.output = w.output
  size : w.heap.size ≤ w'.heap.size
  block : ∀ k, k < w.heap.size → some k ≠ b → v.ownBlock ≠ some k → w'.heap[k]? = w.heap[k]?
/-- the list's block is the old one or a new one -/
def Later (w : World) (v u : Value) : Prop := ∀ k, u.ownBlock = some k → v.ownBlock = some k ∨ w.heap.size ≤ k
theorem Later.refl (w : World) (v : Value) : Later w v v := fun k h => .inl h
theorem Later.trans {w w1 : World} {v u u2 : Value} (h : Later w v u) (h2 : Later w1 u u2) (hs : w.heap.size ≤ w1.heap.size) : Later w v u2 := by
  intro k hk
  rcases h2 k hk with h3 | h3
  · exact h k h3
  · exact .inr (Nat.le_trans hs h3)
theorem Grew.refl (w : World) (b : Option Nat) (v : Value) : Grew w w b v := ⟨rfl, rfl, rfl, Nat.le_refl _, fun _ _ _ _ => rfl⟩
theorem Grew.trans {w w1 w2 : World} {b : Option Nat} {v u : Value} (h : Grew w w1 b v) (h2 : Grew w1 w2 b u) (hl : Later w v u) : Grew w w2 b v :=
  ⟨h2.os.trans h.os, h2.tape.trans h.tape, h2.output.trans h.output, Nat.le_trans h.size h2.size, fun k hk hb hv => by
    rw [h2.block k (Nat.lt_of_lt_of_le hk h.size) hb (fun e => by
      rcases hl k e with h3 | h3
      · exact hv h3
      · omega)]
    exact h.block k hk hb hv⟩
theorem Grew.of_below {w w' : World} (h : Below w.heap.size w w') (b : Option Nat) (v : Value) : Grew w w' b v := ⟨h.os, h.tape, h.output, h.size, fun k hk _ _ => h.block k hk⟩
theorem Grew.of_row {w w' : World} {v : Value} (h : w.grownBy w' v.ownBlock) (b : Option Nat) : Grew w w' b v := ⟨h.os, h.tape, h.output, h.size, fun k hk _ hv => h.block k hk (fun e => hv e.symm)⟩
theorem Grew.cell {w w' : World} {b : Option Nat} {v : Value} (h : Grew w w' b v) {a : Addr} {z : Value} (hc : w.cell? a = some z) (hb : some a.block ≠ b) (hv : v.ownBlock ≠ some a.block) : w'.cell? a = some z := by
  have e := h.block a.block (block_lt_of_cell hc) hb hv
  rw [← hc]
  simp only [World.cell?]
  rw [e]
theorem SRat.grew {w w' : World} {b : Option Nat} {v : Value} {g o : Nat} {R : SR} (h : SRat w g o R) (hg : Grew w w' b v) (hb : some g ≠ b) (hv : v.ownBlock ≠ some g) : SRat w' g o R :=
  ⟨hg.cell h.c0 hb hv, hg.cell h.c1 hb hv, hg.cell h.c2 hb hv, hg.cell h.c3 hb hv, hg.cell h.c4 hb hv⟩
theorem SRat.drew {w : World} {g o : Nat} {R : SR} (h : SRat w g o R) : SRat w.drew g o R := ⟨h.c0, h.c1, h.c2, h.c3, h.c4⟩
theorem own_drwB {w : World} {base size n : Nat} {e : TypeId} {v : Value} {xs : List Value} (h : w.ownsRow base e size v n xs) (k : Nat) : (w.drewN k).ownsRow base e size v n xs := h
theorem cbox_grew {w w' : World} {g : Nat} {cs : Array Value} {t : TypeId} {b : Option Nat} {v : Value} (h : CBox w g cs t) (hg : Grew w w' b v) (hb : some g ≠ b) (hv : v.ownBlock ≠ some g) : CBox w' g cs t := by
  have hlt : g < w.heap.size := (Array.getElem?_eq_some_iff.1 h).1
  exact (hg.block g hlt hb hv).trans h
theorem strs_app (l : List ByteArray) (t : ByteArray) : strs l ++ [.string t] = strs (l ++ [t]) := by simp [strs]
theorem less_nil (l : List UInt8) : Go.Op.bytesLess l [] = false := by cases l <;> rfl
theorem some_bytes {t : ByteArray} (h : 1 ≤ t.size) : t.toList.isEmpty = false := by
  cases e : t.toList with
  | nil =>
    exfalso
    have : t = ⟨#[]⟩ := bytes_eq (by rw [e, ByteArray.toList, ByteArray.toList.loop, if_neg (by decide)]; rfl)
    rw [this] at h
    exact absurd h (by decide)
  | cons x l => rfl
theorem later_of {w w3 : World} {v v' : Value} (h : Apart w3 v v') (hs : w.heap.size ≤ w3.heap.size) : Later w v v' := by
  intro k hk
  by_cases h1 : v.ownBlock = some k
  · exact .inl h1
  · right
    rcases Nat.lt_or_ge k w.heap.size with h2 | h2
    · exfalso
      exact h (.slice (some ⟨k, 0, none⟩) 1 1) (fun j hj => by have e : k = j := Option.some.inj hj; omega) (fun j hj he => by have e : k = j := Option.some.inj hj; rw [e] at h1; exact h1 he) k rfl hk
    · exact h2
theorem keepL {B1 o0 o1 o2 B2 p1 : Nat} {v0 v1 v2 u1 : Value} {W w w' : World} (h : Below w.heap.size w w')
    (hH : (w.cell? ⟨B1, o0, none⟩ = some v0 ∧ w.cell? ⟨B1, o1, none⟩ = some v1 ∧ w.cell? ⟨B1, o2, none⟩ = some v2) ∧ w.cell? ⟨B2, p1, none⟩ = some u1 ∧ Below W.heap.size W w) :
    (w'.cell? ⟨B1, o0, none⟩ = some v0 ∧ w'.cell? ⟨B1, o1, none⟩ = some v1 ∧ w'.cell? ⟨B1, o2, none⟩ = some v2) ∧ w'.cell? ⟨B2, p1, none⟩ = some u1 ∧ Below W.heap.size W w' := by
  obtain ⟨⟨a1, a2, a3⟩, b1, k0⟩ := hH
  exact ⟨⟨below_at h a1, below_at h a2, below_at h a3⟩, below_at h b1, below_tr h k0⟩
set_option maxHeartbeats 4000000 in
set_option maxRecDepth 100000 in
theorem l06List_any (g o : Nat) (R : SR) (B cn : Nat) (hgB : g < B) (b1 : R.slots ≤ 24) (b2 : 0 ≤ R.least ∧ R.least ≤ 24) (b3 : 0 ≤ R.most ∧ R.most ≤ 24) (b4 : 1 ≤ R.row ∧ R.row ≤ 24) (b5 : 1 ≤ R.pause ∧ R.pause ≤ 24) (hcn : cn ≤ 64) (m : Nat) :
    ∀ (t : ByteArray) (a b c : Int) (v : Value) (out : List ByteArray) (w : World), SRat w g o R → okR (limS R) ⟨a, b, c⟩ → c + m ≤ 24 → (t.size : Int) + m = R.slots → 1 ≤ R.slots → out.length ≤ cn → B ≤ w.heap.size → w.ownsRow B 9 1 v out.length (strs out) →
    Calls Tryd.prog 14 #[.pointer (some ⟨g, o, none⟩), .string t, .agg #[.int .i64 a, .int .i64 b, .int .i64 c], .string ⟨#[]⟩, .int .i64 cn, v] w fun e w' => ∃ u, e = .returned u ∧ w'.ownsRow B 9 1 u (fillS cn out (listS (limS R) m ((⟨a, b, c⟩ : ShiftPt).cut (limS R)) t)).length (strs (fillS cn out (listS (limS R) m ((⟨a, b, c⟩ : ShiftPt).cut (limS R)) t))) ∧ Grew w w' none v ∧ Later w v u := by
  induction m with
  | zero =>
    intro t a b c v out w hr hok hc ht hS hl hB ho
    have HOK := hd hok
    have HO := hd ho
    have HBB := hd hB
    obtain ⟨A, cap, rfl, hcap, _, hA⟩ := own_rd ho (by unfold maxLen; omega)
    have e0 := fun X => Lib.cell?_alloc_some X hr.c0
    have e1 := fun X => Lib.cell?_alloc_some X hr.c1
    have HR := hd hr
    have htz : IntKind.i64.wrap (R.slots - (t.size : Int)) = ((0 : Nat) : Int) := by rw [IntWalk.i64_in _ (by omega)]; omega
    have HTZ := hd ht
    have ts : 1 ≤ t.size := by omega
    have ts2 : t.size ≤ 24 := by omega
    clear hr hok ho hB hA ht
    by_cases hfull : out.length = cn
    · have E := hd (fun l => fill_full (l := l) hfull)
      subst hfull
      go_enter Tryd.func14, Tryd.ntmps14
      go_wp2
      go_quiet (fail)
      go_wp2
      go_ret
      rw [E.out]
      refine ⟨_, rfl, own_drwB (HO.out.alloc _) _, Grew.of_below ?_ _ _, Later.refl _ _⟩
      exact below_drewN (by go_grown) _
    · have hlt : out.length < cn := by omega
      have RC := hd (fun w' (h : SRat w' g o R) => reach_any g o R w' h b3 b4 b5 a b c HOK.out 0 (by omega) (by omega))
      rw [show reachS (limS R) 0 ⟨a, b, c⟩ = 0 from rfl] at RC
      have a0 : 0 ≤ a := HOK.out.w0
      have a1 : a ≤ R.most := HOK.out.w1
      have wr : IntKind.i64.wrap a = a := IntWalk.i64_in _ (by omega)
      have LS := hd (show listS (limS R) 0 ((⟨a, b, c⟩ : ShiftPt).cut (limS R)) t = if R.least ≤ a then [t] else [] from rfl)
      obtain ⟨n, hn⟩ : ∃ n, n = out.length := ⟨_, rfl⟩
      have HN := hd hn
      rw [← hn] at hlt hfull HO hcap hl ⊢
      clear hn
      have q5 : decide (cn ≤ n) = false := by rw [decide_eq_false_iff_not]; omega
      obtain ⟨ls, hls⟩ : ∃ ls, ls = R.least := ⟨_, rfl⟩
      have e2 := e1 (.cells #[.int .i64 a, .int .i64 b, .int .i64 c] 41)
      rw [← hls] at e2 LS
      clear hls e1
      have hbW0 := (Below.refl w.heap.size w).alloc (Nat.le_refl _) (.cells #[.int .i64 a, .int .i64 b, .int .i64 c] 41)
      have HRW := hd (HR.out.below hbW0)
      have hxW : (w.alloc (.cells #[.int .i64 a, .int .i64 b, .int .i64 c] 41)).heap[w.heap.size]? = some (.cells #[.int .i64 a, .int .i64 b, .int .i64 c] 41 (0, 0)) := by rw [heap_alloc_get, if_pos rfl]
      go_enter Tryd.func14, Tryd.ntmps14
      go_wp2
      obtain ⟨W, hW⟩ : ∃ W, W = w.alloc (.cells #[.int .i64 a, .int .i64 b, .int .i64 c] 41) := ⟨_, rfl⟩
      rw [← hW] at HRW hbW0 e2 hxW
      rw [← hW]
      have HbW := hd hbW0
      have HxW := hd hxW
      clear hW e0 hbW0
      obtain ⟨k0, k1, k2⟩ := cbox3 hxW
      clear hxW
      obtain ⟨gb, hgb⟩ : ∃ gb, gb = w.heap.size := ⟨_, rfl⟩
      rw [← hgb] at k0 k1 k2 HxW
      rw [← hgb]
      clear hgb
      have hbw0 : Below W.heap.size W W.drew := (Below.refl _ _).drew
      go_region_held3 (fun w' => (w'.cell? ⟨gb, 0, none⟩ = some (.int .i64 a) ∧ w'.cell? ⟨gb, 1, none⟩ = some (.int .i64 b) ∧ w'.cell? ⟨gb, 2, none⟩ = some (.int .i64 c)) ∧ w'.cell? ⟨g, o + 1, none⟩ = some (.int .i64 ls) ∧ Below W.heap.size W w')
        (first | go_keep | exact keepL h (by assumption))
        (first | (go_at_call 23; refine (RC.out _ (HRW.out.below (‹_ ∧ _ ∧ Below W.heap.size W _›).2.2)).mono ?_; rintro e w' ⟨rfl, h⟩))
      rename _ ∧ _ ∧ Below W.heap.size W _ => hH
      rename World => w2
      have HB2 := hd (below_tr hH.2.2 HbW.out)
      have x0 := hH.1.1
      have x1 := hH.2.1
      clear hH k0 k1 k2 e2 hbw0
      by_cases hle : a < ls
      · have E := hd (show listS (limS R) 0 ((⟨a, b, c⟩ : ShiftPt).cut (limS R)) t = [] by rw [LS.out, if_neg (by omega)])
        go_wp2
        go_ret
        rw [E.out, fill_nil (by rw [← HN.out]; exact Nat.le_of_lt hlt), ← HN.out]
        exact ⟨_, rfl, own_below HO.out HB2.out, Grew.of_below HB2.out _ _, Later.refl _ _⟩
      · have E := hd (show listS (limS R) 0 ((⟨a, b, c⟩ : ShiftPt).cut (limS R)) t = [t] by rw [LS.out, if_pos (by omega)])
        have q6 : decide (ls ≤ a) = true := by rw [decide_eq_true_iff]; omega
        go_wp2
        have l1 := less_nil t.toList
        have l2 := some_bytes ts
        go_quiet (fail)
        have hO := own_drwB (own_below HO.out HB2.out) nq
        have HO2 := hd hO
        have HB3 := hd (below_drewN HB2.out nq)
        clear hO
        go_wp2_with (at_builtin; go_must (refine wpList_app_string _ _ _ rfl _ _ rfl B n _ _ rfl HO2.out rfl _ rfl rfl (by omega) (Nat.le_trans HBB.out HB3.out.size) ?_); intro v' w4 ho4 hg4 hap)
        go_ret
        rw [E.out, fill_one (by rw [← HN.out]; exact hlt)]
        refine ⟨_, rfl, ?_, (Grew.of_below HB3.out none _).trans (Grew.of_row hg4 none) (Later.refl _ _), fun k hk => ?_⟩
        · rw [List.length_append, ← HN.out, ← strs_app]; exact ho4
        · exact later_of hap HB3.out.size k hk
  | succ m ih =>
    intro t a b c v out w hr hok hc ht hS hl hB ho
    have IH := hd ih
    have HOK := hd hok
    have HO := hd ho
    have HBB := hd hB
    obtain ⟨A, cap, rfl, hcap, _, hA⟩ := own_rd ho (by unfold maxLen; omega)
    have hvb := hd (show ∀ k, (Value.slice A out.length cap).ownBlock = some k → B ≤ k ∧ k < w.heap.size from fun k hk => (World.ownsRow.lt ho k hk))
    have hgw := hd (show g < w.heap.size from block_lt_of_cell hr.c0)
    have e0 := fun X => Lib.cell?_alloc_some X hr.c0
    have e1 := fun X => Lib.cell?_alloc_some X hr.c1
    have HR := hd hr
    have htz : IntKind.i64.wrap (R.slots - (t.size : Int)) = ((m + 1 : Nat) : Int) := by rw [IntWalk.i64_in _ (by omega)]; omega
    have HTZ := hd ht
    have m24 : m + 1 ≤ 24 := by omega
    have ts : t.size ≤ 24 := by omega
    clear ih hr hok ho hB hA ht
    by_cases hfull : out.length = cn
    · have E := hd (fun l => fill_full (l := l) hfull)
      subst hfull
      go_enter Tryd.func14, Tryd.ntmps14
      go_wp2
      go_quiet (fail)
      go_wp2
      go_ret
      rw [E.out]
      refine ⟨_, rfl, own_drwB (HO.out.alloc _) _, Grew.of_below ?_ _ _, Later.refl _ _⟩
      exact below_drewN (by go_grown) _
    · have hlt : out.length < cn := by omega
      have RC := hd (fun w' (h : SRat w' g o R) => reach_any g o R w' h b3 b4 b5 a b c HOK.out (m + 1) (by omega) (by omega))
      have rl := reach_le (limS R) (m + 1) ⟨a, b, c⟩
      have LN := hd (fun h => list_none (L := limS R) (m := m + 1) (s := ⟨a, b, c⟩) (t := t) b5.1 b4.1 HOK.out h)
      have a0 : 0 ≤ a := HOK.out.w0
      have a1 : a ≤ R.most := HOK.out.w1
      obtain ⟨r, hr⟩ : ∃ r, r = reachS (limS R) (m + 1) ⟨a, b, c⟩ := ⟨_, rfl⟩
      rw [← hr] at RC rl LN
      clear hr
      have wr : IntKind.i64.wrap (a + (r : Int)) = a + r := IntWalk.i64_in _ (by omega)
      have HRA := hd (fun X => HR.out.below ((Below.refl w.heap.size w).alloc (Nat.le_refl _) X))
      obtain ⟨n, hn⟩ : ∃ n, n = out.length := ⟨_, rfl⟩
      have HN := hd hn
      rw [← hn] at hlt hfull HO hcap hl hvb ⊢
      clear hn
      have q5 : decide (cn ≤ n) = false := by rw [decide_eq_false_iff_not]; omega
      obtain ⟨ls, hls⟩ : ∃ ls, ls = R.least := ⟨_, rfl⟩
      have e2 := e1 (.cells #[.int .i64 a, .int .i64 b, .int .i64 c] 41)
      have LN2 := hd (show a + (r : Int) < ls → listS (limS R) (m + 1) ((⟨a, b, c⟩ : ShiftPt).cut (limS R)) t = [] from fun h => LN.out (by rw [hls] at h; exact h))
      clear LN
      rw [← hls] at e2
      have HLS := hd hls
      clear hls e1
      have HGF := hd (fun w' => goes_free g o a b c HOK.out.f0 (by omega) w')
      have hbW0 := (Below.refl w.heap.size w).alloc (Nat.le_refl _) (.cells #[.int .i64 a, .int .i64 b, .int .i64 c] 41)
      have HRW := hd (HR.out.below hbW0)
      have hxW : (w.alloc (.cells #[.int .i64 a, .int .i64 b, .int .i64 c] 41)).heap[w.heap.size]? = some (.cells #[.int .i64 a, .int .i64 b, .int .i64 c] 41 (0, 0)) := by rw [heap_alloc_get, if_pos rfl]
      go_enter Tryd.func14, Tryd.ntmps14
      go_wp2
      obtain ⟨W, hW⟩ : ∃ W, W = w.alloc (.cells #[.int .i64 a, .int .i64 b, .int .i64 c] 41) := ⟨_, rfl⟩
      rw [← hW] at HRW hbW0 e2 hxW
      rw [← hW]
      have HbW := hd hbW0
      have HxW := hd hxW
      clear hW e0 hbW0
      obtain ⟨k0, k1, k2⟩ := cbox3 hxW
      clear hxW
      obtain ⟨gb, hgb⟩ : ∃ gb, gb = w.heap.size := ⟨_, rfl⟩
      rw [← hgb] at k0 k1 k2 HxW
      rw [← hgb]
      have HGB := hd hgb
      clear hgb
      have hbw0 : Below W.heap.size W W.drew := (Below.refl _ _).drew
      go_region_held3 (fun w' => (w'.cell? ⟨gb, 0, none⟩ = some (.int .i64 a) ∧ w'.cell? ⟨gb, 1, none⟩ = some (.int .i64 b) ∧ w'.cell? ⟨gb, 2, none⟩ = some (.int .i64 c)) ∧ w'.cell? ⟨g, o + 1, none⟩ = some (.int .i64 ls) ∧ Below W.heap.size W w')
        (first | go_keep | exact keepL h (by assumption))
        (first | (go_at_call 23; refine (RC.out _ (HRW.out.below (‹_ ∧ _ ∧ Below W.heap.size W _›).2.2)).mono ?_; rintro e w' ⟨rfl, h⟩))
      rename _ ∧ _ ∧ Below W.heap.size W _ => hH
      rename World => w2
      have HB2 := hd (below_tr hH.2.2 HbW.out)
      have HR2 := hd (HRW.out.below hH.2.2)
      have HC2 := hd (cbox_below HxW.out hH.2.2)
      clear hH k0 k1 k2 e2 hbw0
      by_cases hle : a + r < ls
      · have E := hd (LN2.out hle)
        go_wp2
        go_ret
        rw [E.out, fill_nil (by rw [← HN.out]; exact Nat.le_of_lt hlt), ← HN.out]
        exact ⟨_, rfl, own_below HO.out HB2.out, Grew.of_below HB2.out _ _, Later.refl _ _⟩
      · obtain ⟨p0, p1, p2⟩ := cbox3 HC2.out
        obtain ⟨c2, hc2⟩ : ∃ c2, c2 = if 0 ≤ c then c + 1 else c := ⟨_, rfl⟩
        rw [← hc2] at HGF
        have HC2E := hd hc2
        clear hc2
        have HOF := hd (show okR (limS R) ⟨a, 0, c2⟩ by have := okR_off (L := limS R) (show 0 ≤ R.row by omega) HOK.out; rw [HC2E.out]; exact this)
        have hcm : c2 + m ≤ 24 := by rw [HC2E.out]; split <;> omega
        have EC := hd (show ((⟨a, b, c⟩ : ShiftPt).cut (limS R)).off (limS R) = (⟨a, 0, c2⟩ : ShiftPt).cut (limS R) by rw [← cut_off (L := limS R) b5.1]; rw [HC2E.out]; rfl)
        have EM := hd (cut_may (L := limS R) b5.1 ⟨a, b, c⟩)
        have EON := hd (cut_on (L := limS R) b5.1 ⟨a, b, c⟩)
        have X1 := hd (fun w4 hr hB ho => IH.out (t ++ ⟨#[46]⟩) a 0 c2 (.slice A n cap) out w4 hr HOF.out hcm (by have := HTZ.out; simp only [ByteArray.size_append]; have e : (ByteArray.mk #[46]).size = 1 := rfl; omega) hS (by rw [← HN.out]; exact hl) hB ho)
        rw [← HN.out] at X1
        obtain ⟨o1, ho1⟩ : ∃ o1, o1 = fillS cn out (listS (limS R) m ((⟨a, 0, c2⟩ : ShiftPt).cut (limS R)) (t ++ ⟨#[46]⟩)) := ⟨_, rfl⟩
        rw [← ho1] at X1
        have HO1 := hd ho1
        have o1l : o1.length ≤ cn := by rw [ho1]; exact fill_len
        clear ho1
        cases hmay : (⟨a, b, c⟩ : ShiftPt).may (limS R) with
        | false =>
          have E := hd (show fillS cn out (listS (limS R) (m + 1) ((⟨a, b, c⟩ : ShiftPt).cut (limS R)) t) = o1 by rw [listS, EM.out, hmay, EC.out, HO1.out]; simp)
          have GX := hd (show ∃ x y z : Int, ∀ w', SRat w' g o R → Calls Tryd.prog 20 #[.pointer (some ⟨g, o, none⟩), .agg #[.int .i64 a, .int .i64 b, .int .i64 c], .bool true] w' fun r w'' => r = .returned (.tuple #[.agg #[.int .i64 x, .int .i64 y, .int .i64 z], .bool false]) ∧ Below w'.heap.size w' w'' from by
            by_cases hp : 0 < c ∧ c < R.pause
            · exact ⟨a, b, c, fun w' h => goes_no g o R a b c w' h hp.1 hp.2⟩
            · have hno : (decide (a + 1 ≤ R.most) && decide (b + 1 ≤ R.row)) = false := by
                rw [Bool.eq_false_iff]
                intro h
                simp only [Bool.and_eq_true, decide_eq_true_eq] at h
                have := (may_iff (L := limS R) (p := ⟨a, b, c⟩)).2 ⟨hp, h.1, h.2⟩
                rw [hmay] at this; cases this
              refine ⟨a + 1, b + 1, 0, fun w' h => ?_⟩
              have := goes_yes g o R a b c w' h a0 (by omega) HOK.out.r0 (by have := HOK.out.r1; change b ≤ R.row at this; omega) (by rw [Bool.and_eq_false_iff]; simp only [decide_eq_false_iff_not]; omega)
              rw [hno] at this
              exact this)
          obtain ⟨x, y, z, gx⟩ := GX.out
          have GY := hd gx
          clear GX gx hmay
          go_wp2_with (first
            | (go_at_call_has 20 (Value.bool false); refine (HGF.out _).mono ?_; rintro e w3 ⟨rfl, hb4⟩; have HB4 := hd (below_tr ((Below.refl w3.heap.size w3).alloc (Nat.le_refl _) (.cells #[.int .i64 a, .int .i64 0, .int .i64 c2] 41)) (below_tr hb4 HB2.out)); have HC4 := hd (cbox_below (cbox_below HC2.out hb4) ((Below.refl w3.heap.size w3).alloc (Nat.le_refl _) (.cells #[.int .i64 a, .int .i64 0, .int .i64 c2] 41))); have HR4 := hd ((HR2.out.below hb4).below ((Below.refl w3.heap.size w3).alloc (Nat.le_refl _) (.cells #[.int .i64 a, .int .i64 0, .int .i64 c2] 41))); clear hb4 p0 p1 p2)
            | (go_at_call_has 14 (Value.string (t ++ ⟨#[46]⟩)); refine (X1.out _ HR4.out (Nat.le_trans HBB.out HB4.out.size) (own_below HO.out HB4.out)).mono ?_; rintro e w5 ⟨u1, rfl, ho5, hg5, hla5⟩; have HR5 := hd (HR4.out.grew hg5 (by simp) (fun e => by have := (hvb.out _ e).1; omega)); have HC5 := hd (cbox_grew HC4.out hg5 (by simp) (fun e => by have := (hvb.out _ e).2; have := HGB.out; omega)); have HO5 := hd ho5; have HG5 := hd ((Grew.of_below HB4.out none (.slice A n cap)).trans hg5 (Later.refl _ _)); have HL5 := hd (show Later w (.slice A n cap) u1 from fun k hk => (hla5 k hk).imp id (fun h => Nat.le_trans HB4.out.size h)); obtain ⟨q0, q1, q2⟩ := cbox3 HC5.out; clear ho5 hg5 hla5)
            | (go_at_call_has 20 (Value.bool true); refine (GY.out _ HR5.out).mono ?_; rintro e w6 ⟨rfl, hb6⟩; have HB6 := hd (below_tr ((Below.refl w6.heap.size w6).alloc (Nat.le_refl _) (.cells #[.int .i64 x, .int .i64 y, .int .i64 z] 41)) hb6); clear hb6 q0 q1 q2))
          go_ret
          rw [E.out]
          exact ⟨_, rfl, own_below HO5.out HB6.out, HG5.out.trans (Grew.of_below HB6.out none u1) HL5.out, HL5.out⟩
        | true =>
          obtain ⟨m0, m1, m2⟩ := (may_iff (L := limS R)).1 hmay
          simp only [limS] at m0 m1 m2
          have HON := hd (okR_on (L := limS R) HOK.out hmay)
          have X2 := hd (fun u w4 hr hB ho => IH.out (t ++ ⟨#[119]⟩) (a + 1) (b + 1) 0 u o1 w4 hr HON.out (by omega) (by have := HTZ.out; simp only [ByteArray.size_append]; have e : (ByteArray.mk #[119]).size = 1 := rfl; omega) hS o1l hB ho)
          have E := hd (show fillS cn out (listS (limS R) (m + 1) ((⟨a, b, c⟩ : ShiftPt).cut (limS R)) t) = fillS cn o1 (listS (limS R) m ((⟨a + 1, b + 1, 0⟩ : ShiftPt).cut (limS R)) (t ++ ⟨#[119]⟩)) by
            rw [listS, EM.out, hmay, EC.out, HO1.out, fill_app, if_pos rfl, ← EON.out]; rfl)
          obtain ⟨l2, hl2⟩ : ∃ l2, l2 = fillS cn o1 (listS (limS R) m ((⟨a + 1, b + 1, 0⟩ : ShiftPt).cut (limS R)) (t ++ ⟨#[119]⟩)) := ⟨_, rfl⟩
          rw [← hl2] at E X2
          clear hl2
          have GY := hd (fun w' (h : SRat w' g o R) => goes_yes g o R a b c w' h a0 (by omega) HOK.out.r0 (by omega) (by rw [Bool.and_eq_false_iff]; simp only [decide_eq_false_iff_not]; omega))
          rw [decide_eq_true m1, decide_eq_true m2] at GY
          clear hmay
          go_wp2_with (first
            | (go_at_call_has 20 (Value.bool false); refine (HGF.out _).mono ?_; rintro e w3 ⟨rfl, hb4⟩; have HB4 := hd (below_tr ((Below.refl w3.heap.size w3).alloc (Nat.le_refl _) (.cells #[.int .i64 a, .int .i64 0, .int .i64 c2] 41)) (below_tr hb4 HB2.out)); have HC4 := hd (cbox_below (cbox_below HC2.out hb4) ((Below.refl w3.heap.size w3).alloc (Nat.le_refl _) (.cells #[.int .i64 a, .int .i64 0, .int .i64 c2] 41))); have HR4 := hd ((HR2.out.below hb4).below ((Below.refl w3.heap.size w3).alloc (Nat.le_refl _) (.cells #[.int .i64 a, .int .i64 0, .int .i64 c2] 41))); clear hb4 p0 p1 p2)
            | (go_at_call_has 14 (Value.string (t ++ ⟨#[46]⟩)); refine (X1.out _ HR4.out (Nat.le_trans HBB.out HB4.out.size) (own_below HO.out HB4.out)).mono ?_; rintro e w5 ⟨u1, rfl, ho5, hg5, hla5⟩; have HR5 := hd (HR4.out.grew hg5 (by simp) (fun e => by have := (hvb.out _ e).1; omega)); have HC5 := hd (cbox_grew HC4.out hg5 (by simp) (fun e => by have := (hvb.out _ e).2; have := HGB.out; omega)); have HO5 := hd ho5; have HG5 := hd ((Grew.of_below HB4.out none (.slice A n cap)).trans hg5 (Later.refl _ _)); have HL5 := hd (show Later w (.slice A n cap) u1 from fun k hk => (hla5 k hk).imp id (fun h => Nat.le_trans HB4.out.size h)); obtain ⟨q0, q1, q2⟩ := cbox3 HC5.out; clear ho5 hg5 hla5)
            | (go_at_call_has 20 (Value.bool true); refine (GY.out _ HR5.out).mono ?_; rintro e w6 ⟨rfl, hb6⟩; have HB6 := hd (below_tr ((Below.refl w6.heap.size w6).alloc (Nat.le_refl _) (.cells #[.int .i64 (a + 1), .int .i64 (b + 1), .int .i64 0] 41)) hb6); clear hb6 q0 q1 q2)
            | (go_at_call_has 14 (Value.string (t ++ ⟨#[119]⟩)); refine (X2.out u1 _ (HR5.out.below HB6.out) (Nat.le_trans (Nat.le_trans HBB.out HG5.out.size) HB6.out.size) (own_below HO5.out HB6.out)).mono ?_; rintro e w7 ⟨u2, rfl, ho7, hg7, hla7⟩; have HG7 := hd (HG5.out.trans ((Grew.of_below HB6.out none u1).trans hg7 (Later.refl _ _)) HL5.out); have HL7 := hd (HL5.out.trans hla7 (Nat.le_trans HG5.out.size HB6.out.size)); have HO7 := hd ho7; clear ho7 hg7 hla7))
          go_ret
          rw [E.out]
          exact ⟨_, rfl, HO7.out, HG7.out, HL7.out⟩
end Go.Proofs.YtmjdhignhdphpaaDoor
