/- All tables of a period, one by one, on the reference's side. -/
import Derived.Test.YtldehffhpblliaaProg
import Derived.Test.YtldehffhpblliaaTab
import Derived.Test.YtldehffhpblliaaStoreBox
namespace Go.Proofs.Ytldehffhpblliaa
open Go.RowKit Plain
set_option linter.unusedVariables false
set_option linter.unusedSimpArgs false
attribute [local go_sem ↓] Go.wp_at_zero Go.wp_at_succ

def kbT (l : List Q4) (n p : Nat) (k : Nat) : Bool := keepsB l p (tabK p n k)
def smT (l : List Q4) (n p : Nat) (k : Nat) : Int := sumW l p (tabK p n k) l.length
/-- a slice that holds the table told, if one is told -/
def OptRow (n p B : Nat) (w : World) (f : Value) : Option Nat → Prop
  | none => f = .slice none 0 0
  | some i => w.ownsRow B 2 1 f n ((tabK p n i).map vi)
theorem optRow_kept {n p B : Nat} {w w' : World} {f : Value} {o : Option Nat} {row : Option Nat} (h : OptRow n p B w f o) (hg : w.grownBy w' row) (hr : ∀ q, row = some q → q < B) : OptRow n p B w' f o := by
  cases o with
  | none => exact h
  | some i =>
    have h : w.ownsRow B 2 1 f n ((tabK p n i).map vi) := h
    refine h.kept hg ?_
    cases hf : f.ownBlock with
    | none => exact .inl rfl
    | some k =>
      refine .inr fun e => ?_
      have := hr k e.symm
      have := (World.ownsRow.lt h k hf).1
      omega
theorem optRow_below {n p B : Nat} {w w' : World} {f : Value} {o : Option Nat} (h : OptRow n p B w f o) (hg : Below w.heap.size w w') : OptRow n p B w' f o := optRow_kept h (below_all hg none) (fun q hq => by cases hq)
theorem optRow_mono {n p B B' : Nat} {w : World} {f : Value} {o : Option Nat} (h : OptRow n p B w f o) (hb : B' ≤ B) : OptRow n p B' w f o := by
  cases o with
  | none => exact h
  | some i => exact own_mono (show w.ownsRow B 2 1 f n ((tabK p n i).map vi) from h) hb
/-- the box of what is found -/
def LookBox (w : World) (g : Nat) (c s : Int) (f b : Value) : Prop := w.heap[g]? = some (.cells #[.int .i64 c, .int .i64 s, f, b] 85 (0, 0))

/-- what holds between the rounds: two boxes, the rows that are found, nothing below touched -/
def LookInv (n p : Nat) (w : World) (c s : Int) (f b : Value) (fo bo : Option Nat) (H : Nat) (wr : World) : Prop :=
  LookBox wr (w.heap.size + 1) c s f b ∧ LookBox wr w.heap.size 0 0 (.slice none 0 0) (.slice none 0 0) ∧ (OptRow n p (w.heap.size + 2) wr f fo ∧ ∀ k, f.ownBlock = some k → k < H) ∧ (OptRow n p (w.heap.size + 2) wr b bo ∧ ∀ k, b.ownBlock = some k → k < H) ∧
  Below w.heap.size w wr ∧ w.heap.size + 2 ≤ H ∧ H ≤ wr.heap.size
theorem optRow_kept2 {n p B : Nat} {w w' : World} {f : Value} {o : Option Nat} {row : Option Nat} (h : OptRow n p B w f o) (hg : w.grownBy w' row) (hr : ∀ q, row = some q → f.ownBlock ≠ some q) : OptRow n p B w' f o := by
  cases o with
  | none => exact h
  | some i =>
    have h : w.ownsRow B 2 1 f n ((tabK p n i).map vi) := h
    refine h.kept hg ?_
    cases hf : f.ownBlock with
    | none => exact .inl rfl
    | some k => exact .inr fun e => hr k e.symm hf
theorem lookBox_kept {w w' : World} {g : Nat} {c s : Int} {f b : Value} {row : Option Nat} (h : LookBox w g c s f b) (hg : w.grownBy w' row) (hr : row ≠ some g) : LookBox w' g c s f b := by
  unfold LookBox at *
  rw [← h]
  have hlt : g < w.heap.size := by
    rcases Nat.lt_or_ge g w.heap.size with h' | h'
    · exact h'
    · rw [Array.getElem?_eq_none h'] at h; cases h
  exact hg.block g hlt (fun e => hr e.symm)
theorem lookInv_kept {n p : Nat} {w : World} {c s : Int} {f b : Value} {fo bo : Option Nat} {H : Nat} {wr wr' : World} {row : Option Nat} (h : LookInv n p w c s f b fo bo H wr) (hg : wr.grownBy wr' row) (hr : ∀ q, row = some q → H ≤ q) : LookInv n p w c s f b fo bo H wr' := by
  obtain ⟨h1, h2, ⟨h3, h4⟩, ⟨h5, h6⟩, h7, h8, h9⟩ := h
  have hs := hg.size
  refine ⟨lookBox_kept h1 hg (fun e => by have := hr _ e; omega), lookBox_kept h2 hg (fun e => by have := hr _ e; omega), ⟨optRow_kept2 h3 hg (fun q hq e => by have := hr _ hq; have := h4 _ e; omega), h4⟩,
    ⟨optRow_kept2 h5 hg (fun q hq e => by have := hr _ hq; have := h6 _ e; omega), h6⟩, below_row hg h7 (fun q hq => by have := hr _ hq; omega), h8, by omega⟩
theorem lookInv_up {n p : Nat} {w : World} {c s : Int} {f b : Value} {fo bo : Option Nat} {H H' : Nat} {wr : World} (h : LookInv n p w c s f b fo bo H wr) (h1 : H ≤ H') (h2 : H' ≤ wr.heap.size) : LookInv n p w c s f b fo bo H' wr := by
  obtain ⟨k1, k2, ⟨k3, k4⟩, ⟨k5, k6⟩, k7, k8, k9⟩ := h
  exact ⟨k1, k2, ⟨k3, fun k e => Nat.lt_of_lt_of_le (k4 k e) h1⟩, ⟨k5, fun k e => Nat.lt_of_lt_of_le (k6 k e) h1⟩, k7, by omega, h2⟩
theorem own_slice_block {g n cap : Nat} {k : Nat} (h : (Value.slice (some ⟨g, 0, none⟩) n cap).ownBlock = some k) : k = g := by cases h; rfl
theorem lookInv_step {n p k g : Nat} {w : World} {c s c' s' : Int} {f b f' b' : Value} {fo bo fo' bo' : Option Nat} {wr w2 : World} (h : LookInv n p w c s f b fo bo g wr) (ho : wr.ownsRow g 2 1 (.slice (some ⟨g, 0, none⟩) n n) n ((tabK p n k).map vi))
    (hg : wr.grownBy w2 (some (w.heap.size + 1))) (hb : LookBox w2 (w.heap.size + 1) c' s' f' b') (h1 : f' = f ∧ fo' = fo ∨ f' = .slice (some ⟨g, 0, none⟩) n n ∧ fo' = some k) (h2 : b' = b ∧ bo' = bo ∨ b' = .slice (some ⟨g, 0, none⟩) n n ∧ bo' = some k) :
    LookInv n p w c' s' f' b' fo' bo' w2.heap.size w2 := by
  obtain ⟨k1, k2, ⟨k3, k4⟩, ⟨k5, k6⟩, k7, k8, k9⟩ := h
  have hs := hg.size
  have hgl := own_in ho g rfl
  have hrow : OptRow n p (w.heap.size + 2) w2 (.slice (some ⟨g, 0, none⟩) n n) (some k) := by
    have h3 := own_mono ho k8
    show w2.ownsRow _ _ _ _ _ _
    exact h3.kept hg (.inr (by intro e; have := own_slice_block e; omega))
  have hblk : ∀ q, (Value.slice (some ⟨g, 0, none⟩) n n).ownBlock = some q → q < w2.heap.size := fun q hq => by have := own_slice_block hq; omega
  refine ⟨hb, lookBox_kept k2 hg (by intro e; have := Option.some.inj e; omega), ?_, ?_, below_row hg k7 (fun q hq => by cases hq; omega), by omega, Nat.le_refl _⟩
  · rcases h1 with ⟨rfl, rfl⟩ | ⟨rfl, rfl⟩
    · exact ⟨optRow_kept k3 hg (fun q hq => by cases hq; omega), fun q e => by have := k4 q e; omega⟩
    · exact ⟨hrow, hblk⟩
  · rcases h2 with ⟨rfl, rfl⟩ | ⟨rfl, rfl⟩
    · exact ⟨optRow_kept k5 hg (fun q hq => by cases hq; omega), fun q e => by have := k6 q e; omega⟩
    · exact ⟨hrow, hblk⟩
theorem size_found : (Try.prog.info? 85).map (·.size) = some 4 := by kernel_rfl
theorem one_four : (#[Value.int .i64 0, .int .i64 0, .slice none 0 0, .slice none 0 0] : Array Value).all (·.oneCell') = true := by simp [Value.oneCell']
theorem size_sl : (Try.prog.info? 24).map (·.size) = some 1 := by kernel_rfl

set_option maxHeartbeats 4000000 in
set_option maxRecDepth 100000 in
theorem l05Look_run (n p : Nat) (v : Value) (l : List Q4) (w : World) (hs : Sl w 4 v l.length (q4s l)) (hok : okT n p l = true) :
    Calls Try.prog 52 #[.int .i64 n, v, .int .i64 p] w fun e w' => ∃ f b, e = .returned (.tuple #[.agg #[.int .i64 (cntT (kbT l n p) (p ^ (n - 1))), .int .i64 (lstT (kbT l n p) (smT l n p) (p ^ (n - 1))), f, b], .bool true]) ∧
      OptRow n p w.heap.size w' f (fstT (kbT l n p) (p ^ (n - 1))) ∧ OptRow n p w.heap.size w' b (bstT (kbT l n p) (smT l n p) (p ^ (n - 1))) ∧ Below w.heap.size w w' := by
  obtain ⟨h1, h2, n1, n2, p1, p2, l32⟩ := okT_facts hok
  obtain ⟨A, cap, rfl, hcap, hr⟩ := hs
  have N1 : (1 : Int) ≤ n := by omega
  have N2 : (n : Int) ≤ 12 := by omega
  have P1 : (1 : Int) ≤ p := by omega
  have P2 : (p : Int) ≤ 60 := by omega
  have PM := hd (fun a (h : a ≤ n - 1) => Nat.le_trans (pow_mono (p := p) (by omega) h) h2)
  have KP := hd (fun k w1 u (hS : Sl w1 4 (.slice A l.length cap) l.length (q4s l)) hu => l05Keeps_any (.slice A l.length cap) u l (tabK p n k) p w1 hS (by rw [tabK_len]; exact hu) (tabOk h1 k))
  have OK := hd (fun k => tabOk h1 k)
  have TL := hd (fun k => tabK_len p n k)
  have FZ := hd (fun k => fillT_zero (p := p) (ev := n) (k := k))
  have FS := hd (fun k a h => fillT_step (p := p) (ev := n) (k := k) (a := a) h)
  have FD := hd (fun k => fillT_done (p := p) (ev := n) (k := k))
  have A0 : 0 < p ^ (n - 1) := Nat.pow_pos (by omega)
  have PZ := hd (Nat.pow_zero p)
  have PS := hd (fun a => Nat.pow_succ (m := a) (n := p))
  have CL := hd (cnt_le (kbT l n p))
  have KB := hd (fun k => (show kbT l n p k = keepsB l p (tabK p n k) from rfl))
  have SM := hd (fun k => (show smT l n p k = sumW l p (tabK p n k) l.length from rfl))
  have TN := hd (fun k h => tab_no (kb := kbT l n p) (sm := smT l n p) (k := k) h)
  have T1 := hd (fun k h h0 => tab_new (kb := kbT l n p) (sm := smT l n p) (k := k) h h0)
  have T2 := hd (fun k h h0 hl => tab_more (kb := kbT l n p) (sm := smT l n p) (k := k) h h0 hl)
  have T3 := hd (fun k h h0 hl => tab_same (kb := kbT l n p) (sm := smT l n p) (k := k) h h0 hl)
  have Z0 := hd (show cntT (kbT l n p) 0 = 0 ∧ fstT (kbT l n p) 0 = none ∧ bstT (kbT l n p) (smT l n p) 0 = none ∧ lstT (kbT l n p) (smT l n p) 0 = 0 from ⟨rfl, rfl, rfl, rfl⟩)
  have DV := hd (fun k a => Nat.div_div_eq_div_mul k (p ^ a) p)
  obtain ⟨all, hall⟩ : ∃ a, a = p ^ (n - 1) := ⟨_, rfl⟩
  rw [← hall] at h2 A0 ⊢
  have Hall := hd hall
  clear hall hok h1
  generalize hm : l.length = m at *
  have Hm := hd hm
  clear hm
  generalize hkb : kbT l n p = kb at *
  generalize hsm : smT l n p = sm at *
  have Hkb := hd hkb; have Hsm := hd hsm
  clear hkb hsm
  have hmem := hr.2.1
  unfold maxLen at hmem
  go_enter Try.func52, Try.ntmps52
  go_wp2
  have hg6 : w.heap.size < w.heap.size + 2 := by omega
  go_loopw [9, 10] (fun al ix wr => ∃ j : Nat, ix = .int .i64 (j + 1 : Nat) ∧ j ≤ n - 1 ∧ al = .int .i64 (p ^ j : Nat) ∧ LookInv n p w 0 0 (.slice none 0 0) (.slice none 0 0) none none (w.heap.size + 2) wr) (fun _ ix _ => n - (intOf ix).toNat)
  case atStart =>
    refine ⟨0, rfl, by omega, by rw [PZ.out]; rfl, ?_, ?_, ⟨rfl, fun k e => by cases e⟩, ⟨rfl, fun k e => by cases e⟩, by go_grown, by omega, by simp⟩
    · unfold LookBox; simp only [heap_alloc_get, World.size_alloc]; simp
    · unfold LookBox; simp only [heap_alloc_get, World.size_alloc]; simp
  case round =>
    obtain ⟨j, rfl, hj, rfl, hinv⟩ := hrel
    by_cases hlt : j + 1 < n
    · have hp1 := PM.out (j + 1) (by omega)
      rw [PS.out j] at hp1
      have hps := PS.out j
      obtain ⟨x, hx⟩ : ∃ x, x = p ^ j := ⟨_, rfl⟩
      rw [← hx] at hp1 hps ⊢
      obtain ⟨y, hy⟩ : ∃ y, y = x * p := ⟨_, rfl⟩
      have hy2 : (y : Int) = (x : Int) * p := by rw [hy]; push_cast; rfl
      have q1 : (x : Int) * p ≤ 4096 := by rw [← hy2]; omega
      have q2 : (0 : Int) ≤ (x : Int) * p := by rw [← hy2]; omega
      have q3 : ((j + 1 : Nat) : Int) < n := by omega
      have HP := hd (show ((p ^ (j + 1) : Nat) : Int) = (x : Int) * p by rw [hps, ← hy, hy2])
      have HI := hd hinv
      clear hp1 hps hx hy hy2 hinv
      go_wp2
      go_roundw
      case rel => exact ⟨j + 1, by go_num, by omega, by rw [HP.out], HI.out⟩
      case measure => simp [intOf]; omega
    · have e : j = n - 1 := by omega
      subst e
      rw [← Hall.out]
      have q3 : ¬ (((n - 1 + 1 : Nat) : Int) < n) := by omega
      have hI := lookInv_up hinv (by exact hinv.2.2.2.2.2.2) (Nat.le_refl _)
      have HI := hd hI
      clear hinv hI
      obtain ⟨z1, z2, z3, z4⟩ := Z0.out
      have HZ := hd (And.intro z1 (And.intro z2 (And.intro z3 z4)))
      clear z1 z2 z3 z4 Z0 PM PZ PS
      go_wp2
      go_loopw [11] (fun ix wr => ∃ k : Nat, k ≤ all ∧ ix = .int .i64 k ∧ ∃ f b, LookInv n p w (cntT kb k) (lstT kb sm k) f b (fstT kb k) (bstT kb sm k) wr.heap.size wr) (fun ix _ => all - (intOf ix).toNat)
      case atStart => exact ⟨0, by omega, rfl, _, _, by rw [HZ.out.1, HZ.out.2.1, HZ.out.2.2.1, HZ.out.2.2.2]; exact HI.out⟩
      case round =>
        obtain ⟨k, hk, rfl, f, b, hinv⟩ := hrel
        clear HI HZ
        by_cases hlt : k < all
        · have HI := hd hinv
          clear hinv
          generalize hg : wr.heap.size = g at *
          have Hg := hd hg
          have NN : ((n : Int) - 1) = ((n - 1 : Nat) : Int) := by omega
          have HN := hd NN
          clear NN
          go_wp2_with (at_make; go_must (refine wpList_make_int _ rfl _ rfl _ _ n rfl rfl (by omega) ?_); intro w3 ho3 hb3)
          rw [hg] at ho3
          have hI3 := lookInv_kept HI.out (below_all hb3 none) (fun q hq => by cases hq)
          have Ho := hd ho3
          have HI3 := hd hI3
          clear HI ho3 hb3 hI3 hg
          go_loopw [13, 14] (fun x i wr2 => ∃ a : Nat, i = .int .i64 a ∧ a ≤ n - 1 ∧ x = .int .i64 (k / p ^ (n - 1 - a) : Nat) ∧ wr2.ownsRow g 2 1 (.slice (some ⟨g, 0, none⟩) n n) n ((fillT p n k a).map vi) ∧ LookInv n p w (cntT kb k) (lstT kb sm k) f b (fstT kb k) (bstT kb sm k) g wr2) (fun _ i _ => (intOf i).toNat)
          case atStart => exact ⟨n - 1, by rw [HN.out], by omega, by simp, by rw [FZ.out]; simpa [vi] using Ho.out, HI3.out⟩
          case round =>
            obtain ⟨a, rfl, ha, rfl, ho, hinv⟩ := hrel
            clear Ho HI3
            by_cases a0 : a = 0
            · subst a0
              rw [FD.out] at ho
              have W := KP.out k wr (.slice (some ⟨g, 0, none⟩) n n) ⟨A, cap, rfl, hcap, hr.below hinv.2.2.2.2.1⟩ (own_sl ho (size_le (by omega)))
              rw [← KB.out k] at W
              have Ho := hd ho; have HI3 := hd hinv
              clear ho hinv
              cases hkbk : kb k with
              | false =>
                rw [hkbk] at W
                have WH := hd W
                have HT := hd (TN.out k hkbk)
                clear W hkbk
                go_wp2_with (go_at_call 63; refine WH.out.mono ?_; rintro e w4 ⟨rfl, hb4⟩)
                go_roundw
                case rel =>
                  have h5 := lookInv_kept HI3.out (below_all hb4 none) (fun q hq => by cases hq)
                  refine ⟨k + 1, by omega, by go_num, f, b, ?_⟩
                  rw [HT.out.1, HT.out.2.1, HT.out.2.2.1, HT.out.2.2.2]
                  exact lookInv_up h5 h5.2.2.2.2.2.2 (Nat.le_refl _)
                case measure => simp [intOf]; omega
              | true =>
                rw [hkbk] at W
                have WH := hd W
                have HT1 := hd (fun h0 => T1.out k hkbk h0)
                have HT2 := hd (fun h0 h1 => T2.out k hkbk h0 h1)
                have HT3 := hd (fun h0 h1 => T3.out k hkbk h0 h1)
                clear W hkbk
                go_wp2_with (go_at_call 63; refine WH.out.mono ?_; rintro e w4 ⟨rfl, hb4⟩)
                have h5 := lookInv_kept HI3.out (below_all hb4 none) (fun q hq => by cases hq)
                have ho5 := own_below Ho.out hb4
                have HI5 := hd h5; have Ho5 := hd ho5
                clear HI3 Ho h5 ho5 WH hb4
                go_loopw [15, 59] (fun sv ix wr5 => ∃ j : Nat, j ≤ m ∧ ix = .int .i64 j ∧ sv = .int .i64 (sumW l p (tabK p n k) j) ∧ Below w4.heap.size w4 wr5) (fun _ ix _ => m - (intOf ix).toNat)
                case atStart => exact ⟨0, by omega, rfl, rfl, Below.refl _ _⟩
                case round =>
                  obtain ⟨j, hj, rfl, rfl, hb5⟩ := hrel
                  by_cases hjm : j < m
                  · obtain ⟨bq, off, qa, qb, qc, qd, hA, hq, c0, c1, c2, c3⟩ := ((hr.below HI5.out.2.2.2.2.1).below hb5).q4 hjm
                    cases hA
                    obtain ⟨na, nb, rfl, rfl, la, lb, x0, x1, ⟨y0, y1⟩, ⟨y2, y3⟩, hwq, z0, z1⟩ := (OK.out k).at hq.out
                    have HW := hd (fun (W : World) q o hS h0 h1 h2 => l05Wait_any na nb qc p _ _ q o (.slice (some ⟨g, 0, none⟩) n n) (tabK p n k) W hS la lb h0 h1 h2 rfl rfl x0 x1 (by omega) P2 y0 y1 y2 y3)
                    rw [← hwq] at HW
                    have hsq := sumW_succ (p := (p : Int)) (ts := tabK p n k) hq.out
                    obtain ⟨s0, s1⟩ := sumW_bd (OK.out k) j
                    have HS := hd (show Sl wr 1 (.slice (some ⟨g, 0, none⟩) n n) (tabK p n k).length ((tabK p n k).map vi) from by rw [TL.out k]; exact (own_sl Ho5.out (size_le (by omega))).below hb5)
                    generalize waitQ (tabK p n k) p ⟨na, nb, qc, qd⟩ = x at *
                    generalize sumW l p (tabK p n k) j = sj at *
                    have Hsq := hd hsq
                    have Hb5 := hd hb5
                    have i1 : (0 : Int) ≤ (j : Int) := by omega
                    have i2 : (j : Int) < (m : Int) := by omega
                    clear hsq hb5 la lb y0 y1 y2 y3 hwq
                    go_wp2_with (go_at_call 64; refine (HW.out _ _ _ HS.out c0 c1 c2).mono ?_; rintro e w7 ⟨rfl, q7, rfl⟩)
                    go_roundw
                    case rel => exact ⟨j + 1, by omega, by go_num, by rw [Hsq.out], below_drewN Hb5.out _⟩
                    case measure => simp [intOf]; omega
                  · have e : j = m := by omega
                    subst e
                    have hsum := SM.out k
                    rw [← hsum]
                    have h6 := lookInv_kept HI5.out (below_all hb5 none) (fun q hq => by cases hq)
                    have ho6 := own_below Ho5.out hb5
                    have hc := CL.out k
                    clear hsum hb5 HI5 Ho5
                    have hbx := h6.1
                    have HI6 := hd h6; have Ho6 := hd ho6
                    have HGR := hd (World.grownBy.refl wr (some (w.heap.size + 1)))
                    clear h6 ho6
                    unfold LookBox at hbx
                    generalize hg8 : w.heap.size + 1 = g8 at *
                    have c0 : wr.cell? ⟨g8, 0, none⟩ = some (.int .i64 (cntT kb k)) := (cell_of_row _ _ 0 _ _ _ hbx).trans rfl
                    have c1 : wr.cell? ⟨g8, 1, none⟩ = some (.int .i64 (lstT kb sm k)) := (cell_of_row _ _ 1 _ _ _ hbx).trans rfl
                    have Hg8 := hd hg8
                    clear hg8
                    obtain ⟨sb0, sb1⟩ := sumW_bd (OK.out k) j
                    have hsb := SM.out k
                    rw [← hsb] at sb0 sb1
                    clear hsb
                    by_cases h0 : cntT kb k = 0
                    · have z0 : ((cntT kb k : Nat) : Int) = 0 := by omega
                      rw [z0] at c0 hbx
                      clear z0
                      have HT := hd (HT1.out h0)
                      clear HT1 HT2 HT3
                      go_wp2_with (first | ((with_reducible refine wpList_store_box _ g8 _ _ hbx size_sl 2 (.slice (some ⟨g, 0, none⟩) n n) ?_ ?_ ?_ ?_ ?_); exact rfl; exact rfl; exact rfl; exact (show 2 < 4 by decide); intro w' hb' hg'; have HGR2 := hd (HGR.out.trans hg'); clear HGR; have HGR := HGR2; clear HGR2; have hbx2 : w'.heap[g8]? = some (.cells #[(.int .i64 0), (.int .i64 (lstT kb sm k)), (.slice (some ⟨g, 0, none⟩) n n), b] 85 (0, 0)) := hb'; clear hbx hb' hg'; have hbx := hbx2; clear hbx2; have c0 : w'.cell? ⟨g8, 0, none⟩ = some (.int .i64 0) := (cell_of_row _ _ 0 _ _ _ hbx).trans rfl) | ((with_reducible refine wpList_store_box _ g8 _ _ hbx size_sl 3 (.slice (some ⟨g, 0, none⟩) n n) ?_ ?_ ?_ ?_ ?_); exact rfl; exact rfl; exact rfl; exact (show 3 < 4 by decide); intro w' hb' hg'; have HGR2 := hd (HGR.out.trans hg'); clear HGR; have HGR := HGR2; clear HGR2; have hbx2 : w'.heap[g8]? = some (.cells #[(.int .i64 0), (.int .i64 (lstT kb sm k)), (.slice (some ⟨g, 0, none⟩) n n), (.slice (some ⟨g, 0, none⟩) n n)] 85 (0, 0)) := hb'; clear hbx hb' hg'; have hbx := hbx2; clear hbx2; have c0 : w'.cell? ⟨g8, 0, none⟩ = some (.int .i64 0) := (cell_of_row _ _ 0 _ _ _ hbx).trans rfl) | ((with_reducible refine wpList_store_box _ g8 _ _ hbx size_int 1 (.int .i64 (sm k)) ?_ ?_ ?_ ?_ ?_); exact rfl; exact rfl; exact rfl; exact (show 1 < 4 by decide); intro w' hb' hg'; have HGR2 := hd (HGR.out.trans hg'); clear HGR; have HGR := HGR2; clear HGR2; have hbx2 : w'.heap[g8]? = some (.cells #[(.int .i64 0), (.int .i64 (sm k)), (.slice (some ⟨g, 0, none⟩) n n), (.slice (some ⟨g, 0, none⟩) n n)] 85 (0, 0)) := hb'; clear hbx hb' hg'; have hbx := hbx2; clear hbx2; have c0 : w'.cell? ⟨g8, 0, none⟩ = some (.int .i64 0) := (cell_of_row _ _ 0 _ _ _ hbx).trans rfl) | ((with_reducible refine wpList_store_box _ g8 _ _ hbx size_int 0 (.int .i64 (0 + 1)) ?_ ?_ ?_ ?_ ?_); exact rfl; exact rfl; exact rfl; exact (show 0 < 4 by decide); intro w' hb' hg'; have HGR2 := hd (HGR.out.trans hg'); clear HGR; have HGR := HGR2; clear HGR2; have hbx2 : w'.heap[g8]? = some (.cells #[.int .i64 (0 + 1), (.int .i64 (sm k)), (.slice (some ⟨g, 0, none⟩) n n), (.slice (some ⟨g, 0, none⟩) n n)] 85 (0, 0)) := hb'; clear hbx hb' hg'; have hbx := hbx2; clear hbx2; have c0 : w'.cell? ⟨g8, 0, none⟩ = some (.int .i64 (0 + 1)) := (cell_of_row _ _ 0 _ _ _ hbx).trans rfl))
                      have e8 := Hg8.out
                      subst e8
                      go_roundw
                      case rel =>
                        first
                          | (refine ⟨k + 1, by omega, by first | go_num | omega, (.slice (some ⟨g, 0, none⟩) n n), (.slice (some ⟨g, 0, none⟩) n n), ?_⟩; rw [HT.out.1, HT.out.2.1, HT.out.2.2.1, HT.out.2.2.2]; exact lookInv_step HI6.out Ho6.out HGR.out hbx (.inr ⟨rfl, rfl⟩) (.inr ⟨rfl, rfl⟩))
                          | (refine ⟨⟨k + 1, by omega, by first | go_num | omega, (.slice (some ⟨g, 0, none⟩) n n), (.slice (some ⟨g, 0, none⟩) n n), ?_⟩, by first | rfl | assumption⟩; rw [HT.out.1, HT.out.2.1, HT.out.2.2.1, HT.out.2.2.2]; exact lookInv_step HI6.out Ho6.out HGR.out hbx (.inr ⟨rfl, rfl⟩) (.inr ⟨rfl, rfl⟩))
                      case measure => simp [intOf]; omega

                    · have hcn : ¬ ((cntT kb k : Int) = 0) := by omega
                      have hc4 : (cntT kb k : Int) ≤ 4096 := by omega
                      by_cases hl : sm k < lstT kb sm k
                      · have HT := hd (HT2.out h0 hl)
                        clear HT1 HT2 HT3
                        go_wp2_with (first | ((with_reducible refine wpList_store_box _ g8 _ _ hbx size_sl 3 (.slice (some ⟨g, 0, none⟩) n n) ?_ ?_ ?_ ?_ ?_); exact rfl; exact rfl; exact rfl; exact (show 3 < 4 by decide); intro w' hb' hg'; have HGR2 := hd (HGR.out.trans hg'); clear HGR; have HGR := HGR2; clear HGR2; have hbx2 : w'.heap[g8]? = some (.cells #[(.int .i64 (cntT kb k : Int)), (.int .i64 (lstT kb sm k)), f, (.slice (some ⟨g, 0, none⟩) n n)] 85 (0, 0)) := hb'; clear hbx hb' hg'; have hbx := hbx2; clear hbx2; have c0 : w'.cell? ⟨g8, 0, none⟩ = some (.int .i64 (cntT kb k : Int)) := (cell_of_row _ _ 0 _ _ _ hbx).trans rfl) | ((with_reducible refine wpList_store_box _ g8 _ _ hbx size_int 1 (.int .i64 (sm k)) ?_ ?_ ?_ ?_ ?_); exact rfl; exact rfl; exact rfl; exact (show 1 < 4 by decide); intro w' hb' hg'; have HGR2 := hd (HGR.out.trans hg'); clear HGR; have HGR := HGR2; clear HGR2; have hbx2 : w'.heap[g8]? = some (.cells #[(.int .i64 (cntT kb k : Int)), (.int .i64 (sm k)), f, (.slice (some ⟨g, 0, none⟩) n n)] 85 (0, 0)) := hb'; clear hbx hb' hg'; have hbx := hbx2; clear hbx2; have c0 : w'.cell? ⟨g8, 0, none⟩ = some (.int .i64 (cntT kb k : Int)) := (cell_of_row _ _ 0 _ _ _ hbx).trans rfl) | ((with_reducible refine wpList_store_box _ g8 _ _ hbx size_int 0 (.int .i64 ((cntT kb k : Int) + 1)) ?_ ?_ ?_ ?_ ?_); exact rfl; exact rfl; exact rfl; exact (show 0 < 4 by decide); intro w' hb' hg'; have HGR2 := hd (HGR.out.trans hg'); clear HGR; have HGR := HGR2; clear HGR2; have hbx2 : w'.heap[g8]? = some (.cells #[.int .i64 ((cntT kb k : Int) + 1), (.int .i64 (sm k)), f, (.slice (some ⟨g, 0, none⟩) n n)] 85 (0, 0)) := hb'; clear hbx hb' hg'; have hbx := hbx2; clear hbx2; have c0 : w'.cell? ⟨g8, 0, none⟩ = some (.int .i64 ((cntT kb k : Int) + 1)) := (cell_of_row _ _ 0 _ _ _ hbx).trans rfl))
                        have e8 := Hg8.out
                        subst e8
                        go_roundw
                        case rel =>
                          first
                            | (refine ⟨k + 1, by omega, by first | go_num | omega, f, (.slice (some ⟨g, 0, none⟩) n n), ?_⟩; rw [HT.out.1, HT.out.2.1, HT.out.2.2.1, HT.out.2.2.2]; exact lookInv_step HI6.out Ho6.out HGR.out hbx (.inl ⟨rfl, rfl⟩) (.inr ⟨rfl, rfl⟩))
                            | (refine ⟨⟨k + 1, by omega, by first | go_num | omega, f, (.slice (some ⟨g, 0, none⟩) n n), ?_⟩, by first | rfl | assumption⟩; rw [HT.out.1, HT.out.2.1, HT.out.2.2.1, HT.out.2.2.2]; exact lookInv_step HI6.out Ho6.out HGR.out hbx (.inl ⟨rfl, rfl⟩) (.inr ⟨rfl, rfl⟩))
                        case measure => simp [intOf]; omega

                      · have HT := hd (HT3.out h0 (by first | exact hl | omega))
                        clear HT1 HT2 HT3
                        go_wp2_with (first | ((with_reducible refine wpList_store_box _ g8 _ _ hbx size_int 0 (.int .i64 ((cntT kb k : Int) + 1)) ?_ ?_ ?_ ?_ ?_); exact rfl; exact rfl; exact rfl; exact (show 0 < 4 by decide); intro w' hb' hg'; have HGR2 := hd (HGR.out.trans hg'); clear HGR; have HGR := HGR2; clear HGR2; have hbx2 : w'.heap[g8]? = some (.cells #[.int .i64 ((cntT kb k : Int) + 1), (.int .i64 (lstT kb sm k)), f, b] 85 (0, 0)) := hb'; clear hbx hb' hg'; have hbx := hbx2; clear hbx2; have c0 : w'.cell? ⟨g8, 0, none⟩ = some (.int .i64 ((cntT kb k : Int) + 1)) := (cell_of_row _ _ 0 _ _ _ hbx).trans rfl))
                        have e8 := Hg8.out
                        subst e8
                        go_roundw
                        case rel =>
                          first
                            | (refine ⟨k + 1, by omega, by first | go_num | omega, f, b, ?_⟩; rw [HT.out.1, HT.out.2.1, HT.out.2.2.1, HT.out.2.2.2]; exact lookInv_step HI6.out Ho6.out HGR.out hbx (.inl ⟨rfl, rfl⟩) (.inl ⟨rfl, rfl⟩))
                            | (refine ⟨⟨k + 1, by omega, by first | go_num | omega, f, b, ?_⟩, by first | rfl | assumption⟩; rw [HT.out.1, HT.out.2.1, HT.out.2.2.1, HT.out.2.2.2]; exact lookInv_step HI6.out Ho6.out HGR.out hbx (.inl ⟨rfl, rfl⟩) (.inl ⟨rfl, rfl⟩))
                        case measure => simp [intOf]; omega


            · obtain ⟨a', rfl⟩ : ∃ a', a = a' + 1 := ⟨a - 1, by omega⟩
              have hdv := DV.out k (n - 1 - (a' + 1))
              rw [← Nat.pow_succ, show (n - 1 - (a' + 1)).succ = n - 1 - a' by omega] at hdv
              have HDV := hd hdv
              have HFS := hd (FS.out k a' (by omega))
              have HI3 := hd hinv
              have hx0 : (0 : Int) < ((a' + 1 : Nat) : Int) := by omega
              have hx1 : ((a' + 1 : Nat) : Int) < n := by omega
              have hkk : (k / p ^ (n - 1 - (a' + 1)) : Nat) ≤ 4096 := by have := Nat.div_le_self k (p ^ (n - 1 - (a' + 1))); omega
              clear hdv hinv
              obtain ⟨x, hx⟩ : ∃ x : Nat, x = k / p ^ (n - 1 - (a' + 1)) := ⟨_, rfl⟩
              rw [← hx] at HDV HFS hkk ⊢
              clear hx
              have r0 : ¬ ((p : Int) = 0) := by omega
              have e1 : (x : Int).tmod p = ((x % p : Nat) : Int) := by rw [Int.tmod_eq_emod_of_nonneg (by omega)]; push_cast; rfl
              have e2 : (x : Int).tdiv p = ((x / p : Nat) : Int) := by rw [Int.tdiv_eq_ediv_of_nonneg (by omega)]; push_cast; rfl
              have e3 := Nat.div_le_self x p
              have e4 := Nat.mod_lt x (show 0 < p by omega)
              have e5 : ((x / p : Nat) : Int) = (x : Int) / p := by push_cast; rfl
              have b1 := Int.ediv_nonneg (show (0 : Int) ≤ x by omega) (show (0 : Int) ≤ p by omega)
              have b2 : (x : Int) / p ≤ 4096 := by have := Int.ediv_le_self (b := (p : Int)) (show (0 : Int) ≤ x by omega); omega
              have E5 := hd e5
              clear e5
              go_wp2_with ((with_reducible refine wpList_store_own _ g 2 1 n n g _ ho size_int ?_ ?_ ?_ ?_ ?_ ?_ ?_); rotate_left 2; exact rfl; exact rfl; exact rfl; omega; intro w6 ho7 hg7)
              have e : w6.ownsRow g 2 1 (.slice (some ⟨g, 0, none⟩) n n) n (((fillT p n k (a' + 1)).map vi).set (a' + 1) (vi ((x % p : Nat) : Int))) := e1 ▸ ho7
              rw [← List.map_set, HFS.out] at e
              go_roundw
              case rel => exact ⟨a', by first | rfl | go_num | (simp; omega), by omega, by rw [← HDV.out, E5.out], e, lookInv_kept HI3.out hg7 (fun q hq => by cases hq; exact Nat.le_refl _)⟩
              case measure => simp [intOf]; try omega
        · have e : k = all := by omega
          subst e
          obtain ⟨i1, i2, ⟨i3, i4⟩, ⟨i5, i6⟩, i7, i8, i9⟩ := hinv
          unfold LookBox at i1 i2
          have c0 := (cell_of_row _ _ 0 _ _ _ i1).trans rfl
          have c1 := (cell_of_row _ _ 1 _ _ _ i1).trans rfl
          have c2 := (cell_of_row _ _ 2 _ _ _ i1).trans rfl
          have c3 := (cell_of_row _ _ 3 _ _ _ i1).trans rfl
          have o1 : ∃ A x y, f = .slice A x y := by
            cases hf : fstT kb k with
            | none => rw [hf] at i3; exact ⟨none, 0, 0, i3⟩
            | some q => rw [hf] at i3; obtain ⟨A1, cp1, e1, _⟩ := own_rd (show wr.ownsRow _ _ _ f _ _ from i3) (size_le (by omega)); exact ⟨_, _, _, e1⟩
          have o2 : ∃ A x y, b = .slice A x y := by
            cases hf : bstT kb sm k with
            | none => rw [hf] at i5; exact ⟨none, 0, 0, i5⟩
            | some q => rw [hf] at i5; obtain ⟨A1, cp1, e1, _⟩ := own_rd (show wr.ownsRow _ _ _ b _ _ from i5) (size_le (by omega)); exact ⟨_, _, _, e1⟩
          have HF := hd i3; have HB := hd i5; have H7 := hd i7; have H2 := hd i2
          have hoo : (#[Value.int .i64 (cntT kb k), .int .i64 (lstT kb sm k), f, b] : Array Value).all (·.oneCell') = true := by
            obtain ⟨_, _, _, e1⟩ := o1
            obtain ⟨_, _, _, e2⟩ := o2
            rw [e1, e2]; simp [Value.oneCell']
          have HOO := hd hoo
          clear i1 i2 i3 i4 i5 i6 i7 o1 o2 hoo
          go_wp2_with ((with_reducible refine wpList_store_rec _ w.heap.size _ #[.int .i64 (cntT kb k), .int .i64 (lstT kb sm k), f, b] _ H2.out ?_ ?_ HOO.out ?_ ?_ ?_); exact size_found; exact rfl; exact rfl; exact rfl; intro w' hb' hg')
          have d0 := (cell_of_row _ _ 0 _ _ _ hb').trans rfl
          have d1 := (cell_of_row _ _ 1 _ _ _ hb').trans rfl
          have d2 := (cell_of_row _ _ 2 _ _ _ hb').trans rfl
          have d3 := (cell_of_row _ _ 3 _ _ _ hb').trans rfl
          refine bodyPost_ret (v := .tuple #[.agg #[.int .i64 (cntT kb k), .int .i64 (lstT kb sm k), f, b], .bool true]) (by simp [results, Try.results52, go_sem, d0, d1, d2, d3]) rfl ⟨f, b, rfl, ?_, ?_, ?_⟩
          · exact optRow_mono (optRow_kept HF.out hg' (fun q hq => by cases hq; omega)) (by omega)
          · exact optRow_mono (optRow_kept HB.out hg' (fun q hq => by cases hq; omega)) (by omega)
          · exact below_row hg' H7.out (fun q hq => by cases hq; exact Nat.le_refl _)
set_option maxHeartbeats 4000000 in
set_option maxRecDepth 100000 in
theorem l05Look_big (n p : Nat) (v : Value) (l : List Q4) (w : World) (n1 : 1 ≤ n) (n2 : n ≤ 12) (p1 : 1 ≤ p) (p2 : p ≤ 60) (hbig : 4096 < p ^ (n - 1)) :
    Calls Try.prog 52 #[.int .i64 n, v, .int .i64 p] w fun e w' => e = .returned (.tuple #[.agg #[.int .i64 0, .int .i64 0, .slice none 0 0, .slice none 0 0], .bool false]) ∧ Below w.heap.size w w' := by
  have N1 : (1 : Int) ≤ n := by omega
  have N2 : (n : Int) ≤ 12 := by omega
  have P1 : (1 : Int) ≤ p := by omega
  have P2 : (p : Int) ≤ 60 := by omega
  have HBIG := hd hbig
  have PZ := hd (Nat.pow_zero p)
  have PS := hd (fun a => Nat.pow_succ (m := a) (n := p))
  clear hbig
  go_enter Try.func52, Try.ntmps52
  go_wp2
  go_loopw [9, 10] (fun al ix wr => ∃ j : Nat, ix = .int .i64 (j + 1 : Nat) ∧ j ≤ n - 1 ∧ al = .int .i64 (p ^ j : Nat) ∧ p ^ j ≤ 4096 ∧ LookBox wr (w.heap.size + 1) 0 0 (.slice none 0 0) (.slice none 0 0) ∧ LookBox wr w.heap.size 0 0 (.slice none 0 0) (.slice none 0 0) ∧ Below w.heap.size w wr) (fun _ ix _ => n - (intOf ix).toNat)
  case atStart =>
    refine ⟨0, rfl, by omega, by rw [PZ.out]; rfl, by rw [PZ.out]; omega, ?_, ?_, by go_grown⟩
    · unfold LookBox; simp only [heap_alloc_get, World.size_alloc]; simp
    · unfold LookBox; simp only [heap_alloc_get, World.size_alloc]; simp
  case round =>
    obtain ⟨j, rfl, hj, rfl, hpj, i1, i2, hb⟩ := hrel
    by_cases hlt : j + 1 < n
    · have hps := PS.out j
      obtain ⟨x, hx⟩ : ∃ x, x = p ^ j := ⟨_, rfl⟩
      rw [← hx] at hpj hps ⊢
      obtain ⟨y, hy⟩ : ∃ y, y = x * p := ⟨_, rfl⟩
      have hy2 : (y : Int) = (x : Int) * p := by rw [hy]; push_cast; rfl
      have hy3 : y ≤ 4096 * 60 := by rw [hy]; exact Nat.mul_le_mul hpj p2
      have q1 : (x : Int) * p ≤ 4096 * 60 := by rw [← hy2]; omega
      have q2 : (0 : Int) ≤ (x : Int) * p := by rw [← hy2]; omega
      have q3 : ((j + 1 : Nat) : Int) < n := by omega
      have HP := hd (show ((p ^ (j + 1) : Nat) : Int) = (x : Int) * p by rw [hps, ← hy, hy2])
      have HPN := hd (show p ^ (j + 1) = y by rw [hps, ← hy])
      have HB := hd hb
      have HY2 := hd hy2
      unfold LookBox at i1 i2
      have c0 := (cell_of_row _ _ 0 _ _ _ i1).trans rfl
      have c1 := (cell_of_row _ _ 1 _ _ _ i1).trans rfl
      have c2 := (cell_of_row _ _ 2 _ _ _ i1).trans rfl
      have c3 := (cell_of_row _ _ 3 _ _ _ i1).trans rfl
      have I1 := hd i1; have I2 := hd i2
      clear hps hx hy hy2 hb hy3 i1 i2
      by_cases hbg : (x : Int) * p ≤ 4096
      · go_wp2
        go_roundw
        case rel => exact ⟨j + 1, by go_num, by omega, by rw [HP.out], by rw [HPN.out]; have := HY2.out; omega, I1.out, I2.out, HB.out⟩
        case measure => simp [intOf]; omega
      · have hbg' : (4096 : Int) < (x : Int) * p := by omega
        go_wp2_with ((with_reducible refine wpList_store_rec _ w.heap.size _ #[.int .i64 0, .int .i64 0, .slice none 0 0, .slice none 0 0] _ I2.out ?_ ?_ one_four ?_ ?_ ?_); exact size_found; exact rfl; exact rfl; exact rfl; intro w' hb' hg')
        have d0 := (cell_of_row _ _ 0 _ _ _ hb').trans rfl
        have d1 := (cell_of_row _ _ 1 _ _ _ hb').trans rfl
        have d2 := (cell_of_row _ _ 2 _ _ _ hb').trans rfl
        have d3 := (cell_of_row _ _ 3 _ _ _ hb').trans rfl
        refine bodyPost_ret (v := .tuple #[.agg #[.int .i64 0, .int .i64 0, .slice none 0 0, .slice none 0 0], .bool false]) (by simp [results, Try.results52, go_sem, d0, d1, d2, d3]) rfl ⟨rfl, below_row hg' HB.out (fun q hq => by cases hq; exact Nat.le_refl _)⟩
    · exfalso
      have e : j = n - 1 := by omega
      subst e
      have := HBIG.out
      omega
end Go.Proofs.Ytldehffhpblliaa
