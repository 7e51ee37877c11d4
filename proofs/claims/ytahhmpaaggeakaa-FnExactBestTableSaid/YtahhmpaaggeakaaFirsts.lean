/- The first table, and the best one, on both sides. -/
import Derived.Test.YtahhmpaaggeakaaProg
import Derived.Test.YtahhmpaaggeakaaCount
import Derived.Test.YtahhmpaaggeakaaTabB
import Derived.Test.YtahhmpaaggeakaaCopy
namespace Go.Proofs.Ytahhmpaaggeakaa
open Go.RowKit Plain
set_option linter.unusedVariables false
set_option linter.unusedSimpArgs false
attribute [local go_sem ↓] Go.wp_at_zero Go.wp_at_succ

theorem fst_stay {kb : Nat → Bool} {k i : Nat} (h : fstT kb k = some i) {m : Nat} (hm : k ≤ m) : fstT kb m = some i := by
  induction m with
  | zero => have : k = 0 := by omega
            subst this; exact h
  | succ m ih =>
    by_cases e : k = m + 1
    · subst e; exact h
    · rw [fstT, ih (by omega)]
def MFirst (ev : Int) (l : List Q4) (p : Int) : List Int × Bool :=
  if okT ev p l then (match fstT (kbT l ev.toNat p.toNat) (allT ev p) with | some i => (tabK p.toNat ev.toNat i, true) | none => ([], false)) else ([], false)
def MBest (ev : Int) (l : List Q4) (p : Int) : List Int × Int × Bool :=
  if okT ev p l then (match bstT (kbT l ev.toNat p.toNat) (smT l ev.toNat p.toNat) (allT ev p) with | some i => (tabK p.toNat ev.toNat i, smT l ev.toNat p.toNat i, true) | none => ([], 0, false)) else ([], 0, false)
theorem okT_len {ev p : Int} {l : List Q4} (h : okT ev p l = true) : ev.toNat ≤ 12 := by
  obtain ⟨n, m, rfl, rfl⟩ := okT_nat h
  have := (okT_facts h).2.2.2.1
  simpa using this
theorem MFirst_len (ev : Int) (l : List Q4) (p : Int) : (MFirst ev l p).1.length ≤ 1048576 := by
  unfold MFirst
  split
  · rename_i h
    have := okT_len h
    split
    · simp only [tabK_len]; omega
    · simp
  · simp
theorem MBest_len (ev : Int) (l : List Q4) (p : Int) : (MBest ev l p).1.length ≤ 1048576 := by
  unfold MBest
  split
  · rename_i h
    have := okT_len h
    split
    · simp only [tabK_len]; omega
    · simp
  · simp
theorem size_ints : (Try.prog.info? 22).map (·.size) = some 1 := by kernel_rfl

set_option maxHeartbeats 400000 in
theorem FirstClo_any (bx n : Nat) (s : Int) (u : Value) (xs : List Int) (w : World) (hu : Sl w 1 u xs.length (xs.map vi)) (hn0 : 0 < xs.length) (hx : xs.length ≤ 1048576) (hb : w.heap[bx]? = some (.cells #[.slice none 0 0] 22 (0, 0))) :
    Calls Try.prog 104 #[u, .int .i64 s, .pointer (some ⟨bx, 0, none⟩)] w fun e w' => e = .returned (.bool false) ∧ ∃ g cap, w'.heap[bx]? = some (.cells #[.slice (some ⟨g, 0, none⟩) xs.length cap] 22 (0, 0)) ∧ w'.ownsRow w.heap.size 2 1 (.slice (some ⟨g, 0, none⟩) xs.length cap) xs.length (xs.map vi) ∧ (∃ w1, Below w.heap.size w w1 ∧ w1.grownBy w' (some bx)) := by
  have hbl : bx < w.heap.size := lt_of_block hb
  have C := hd (Clone_any u xs w hu hn0 hx)
  have HB := hd hb
  have hl1 := hx
  generalize hlen : xs.length = m at *
  clear hb hu hlen
  go_enter Try.func104, Try.ntmps104
  go_wp2_with fail
  refine C.out.mono ?_
  rintro e w1 ⟨z, rfl, ho, hb1, hz⟩
  obtain ⟨A, cap, rfl, hcap, hr, hA⟩ := own_rd ho (size_le hl1)
  obtain ⟨g, rfl, hg1, hg2⟩ : ∃ g, A = some ⟨g, 0, none⟩ ∧ w.heap.size ≤ g ∧ g < w1.heap.size := by
    rcases hA with ⟨rfl, rfl⟩ | h
    · omega
    · exact h
  have hb2 : w1.heap[bx]? = some (.cells #[.slice none 0 0] 22 (0, 0)) := by rw [hb1.block _ hbl]; exact HB.out
  have Hb2 := hd hb2; have Ho := hd ho; have Hb1 := hd hb1
  clear hb2 ho hb1 hr hA hz C HB
  go_wp2_with ((with_reducible refine wpList_store_box _ bx _ _ Hb2.out size_ints 0 (.slice (some ⟨g, 0, none⟩) m cap) ?_ ?_ ?_ ?_ ?_); exact rfl; exact rfl; exact rfl; exact (show 0 < 1 by decide); intro w' hb' hg')
  go_ret
  refine ⟨rfl, g, cap, hb', ?_, w1, Hb1.out, hg'⟩
  exact Ho.out.kept hg' (.inr (by intro e; have := own_slice_block e; omega))

set_option maxHeartbeats 1000000 in
set_option maxRecDepth 100000 in
theorem FirstTable_any (w : World) (ev : Int) (v : Value) (l : List Q4) (s : Sl w 4 v l.length (q4s l)) (p : Int) :
    Calls Try.prog 51 #[.int .i64 ev, v, .int .i64 p] w (OutL 2 1 (MFirst ev l p).1.length ((MFirst ev l p).1.map vi) (fun u => .tuple #[u, .bool (MFirst ev l p).2]) w) := by
  have hmf : ∀ (fn : Fn) (first cap : Array Value) (w : World), (Instr.makeFunc fn first cap).run Try.prog w = .ok (.func fn first cap) w := fun _ _ _ _ => rfl
  have hnn : ∀ w : World, (binOp .neq 22 (.slice none 0 0) (.slice none 0 0)).run Try.prog w = .ok (.bool false) w := fun _ => rfl
  have S := hd s
  cases hok : okT ev p l with
  | false =>
    have H := hd (show MFirst ev l p = ([], false) by rw [MFirst, hok]; rfl)
    have T := hd (fun w' h => tables_FirstTable_no w.heap.size ev p v l w' (S.out.below h) hok)
    clear hok s
    go_enter Try.func51, Try.ntmps51
    go_wp2_with fail
    refine (T.out _ (by go_grown)).mono ?_
    rintro e w1 ⟨rfl, hb⟩
    have hbx : w1.heap[w.heap.size]? = some (.cells #[.slice none 0 0] 22 (0, 0)) := by rw [hb.block _ (by simp)]; first | (simp only [heap_alloc_get]; simp) | simp
    have c0 : w1.cell? ⟨w.heap.size, 0, none⟩ = some (.slice none 0 0) := (cell_of_row _ _ 0 _ _ _ hbx).trans rfl
    have hb2 : Below w.heap.size w w1 := below_tr hb (by go_grown)
    have HB := hd hb2
    clear hb hb2 hbx
    go_wp2
    go_quiet (fail)
    go_wp2
    go_ret2
    rw [H.out]
    exact ⟨_, rfl, World.ownsRow_nil _ _ _ _, by first | exact HB.out | exact below_drewN HB.out _ | exact below_drewN (below_drewN HB.out _) _⟩
  | true =>
    obtain ⟨n, m, rfl, rfl⟩ := okT_nat hok
    obtain ⟨_, _, n1, n12, _, _, _⟩ := okT_facts hok
    have H1 := hd (fun i (h : fstT (kbT l n m) (m ^ (n - 1)) = some i) => (show MFirst n l m = (tabK m n i, true) by rw [MFirst, hok]; simp only [if_true, allT, Int.toNat_natCast, h]))
    have H2 := hd (fun (h : fstT (kbT l n m) (m ^ (n - 1)) = none) => (show MFirst n l m = ([], false) by rw [MFirst, hok]; simp only [if_true, allT, Int.toNat_natCast, h]))
    have T := hd (fun w1 (hB : Below w.heap.size w w1) (hs1 : w1.heap.size = w.heap.size + 1) (hx : w1.heap[w.heap.size]? = some (.cells #[.slice none 0 0] 22 (0, 0))) =>
      tables_FirstTable_run w.heap.size n m v l w1 hok false (fun k w2 => w2.heap[w.heap.size]? = some (.cells #[.slice none 0 0] 22 (0, 0)) ∧ fstT (kbT l n m) k = none ∧ Below w.heap.size w w2 ∧ w.heap.size + 1 ≤ w2.heap.size)
        (fun w2 => ∃ i g cap, fstT (kbT l n m) (m ^ (n - 1)) = some i ∧ w2.heap[w.heap.size]? = some (.cells #[.slice (some ⟨g, 0, none⟩) n cap] 22 (0, 0)) ∧ w2.ownsRow (w.heap.size + 1) 2 1 (.slice (some ⟨g, 0, none⟩) n cap) n ((tabK m n i).map vi) ∧ Below w.heap.size w w2)
        (fun k w2 h => S.out.below h.2.2.1) (fun k w2 h => by omega)
        (fun k w2 w3 g h hg hgr => ⟨by rw [hgr.block _ (by omega) (by intro e; have := Option.some.inj e; omega)]; exact h.1, h.2.1, below_row hgr h.2.2.1 (fun q hq => by have := Option.some.inj hq; omega), by have := hgr.size; omega⟩)
        (fun k w2 hk hkb h => ⟨h.1, by rw [(tab_no (sm := fun _ => 0) (kb := kbT l n m) (k := k) hkb).2.1]; exact h.2.1, h.2.2⟩)
        (fun k w2 u hk hkb h hu => by
          refine (FirstClo_any w.heap.size n _ u (tabK m n k) w2 (by rw [tabK_len]; exact hu) (by rw [tabK_len]; omega) (by rw [tabK_len]; omega) h.1).mono ?_
          rintro e w3 ⟨rfl, g, cap, h3, ho3, w4, hb4, hg4⟩
          rw [tabK_len] at h3 ho3
          refine ⟨rfl, ?_, fun i hi1 hi2 => ?_⟩
          · simp only [Bool.false_eq_true, if_false]
            refine ⟨k, g, cap, fst_stay (k := k + 1) (by rw [fstT, h.2.1]; simp only; rw [if_pos (show kbT l n m k = true from hkb)]) (by omega), h3, own_mono ho3 h.2.2.2, below_row hg4 (below_tr hb4 h.2.2.1) (fun q hq => by cases hq; exact Nat.le_refl _)⟩
          · rw [hg4.block i (by have := hb4.size; omega) (by intro e; have := Option.some.inj e; omega)]
            exact hb4.block i hi2)
        ⟨hx, rfl, hB, by omega⟩)
    clear hok s
    go_enter Try.func51, Try.ntmps51
    go_wp2_with fail
    refine (T.out _ (by go_grown) (by simp) (by first | (simp only [heap_alloc_get]; simp) | simp)).mono ?_
    rintro e w1 ⟨rfl, h⟩
    simp only [Bool.false_eq_true, if_false] at h
    rcases h with ⟨i, g, cap, hf, hx, ho, hb⟩ | ⟨hx, hf, hb, _⟩
    · have hnz : ∀ w : World, (binOp .neq 22 (.slice (some ⟨g, 0, none⟩) n cap) (.slice none 0 0)).run Try.prog w = .ok (.bool true) w := fun _ => rfl
      have c0 : w1.cell? ⟨w.heap.size, 0, none⟩ = some (.slice (some ⟨g, 0, none⟩) n cap) := (cell_of_row _ _ 0 _ _ _ hx).trans rfl
      have H := hd (H1.out i hf)
      have Ho := hd ho; have HB := hd hb
      clear hx hf ho hb
      go_wp2
      go_quiet (fail)
      go_wp2
      go_ret2
      rw [H.out]
      refine ⟨_, rfl, ?_, by first | exact HB.out | exact below_drewN HB.out _ | exact below_drewN (below_drewN HB.out _) _⟩
      simp only [tabK_len]
      exact own_mono Ho.out (by omega)
    · have c0 : w1.cell? ⟨w.heap.size, 0, none⟩ = some (.slice none 0 0) := (cell_of_row _ _ 0 _ _ _ hx).trans rfl
      have H := hd (H2.out hf)
      have HB := hd hb
      clear hx hf hb
      go_wp2
      go_quiet (fail)
      go_wp2
      go_ret2
      rw [H.out]
      exact ⟨_, rfl, World.ownsRow_nil _ _ _ _, by first | exact HB.out | exact below_drewN HB.out _ | exact below_drewN (below_drewN HB.out _) _⟩

set_option maxHeartbeats 1000000 in
set_option maxRecDepth 100000 in
theorem specFirstTable_any (w : World) (ev : Int) (v : Value) (l : List Q4) (s : Sl w 4 v l.length (q4s l)) (p : Int) :
    Calls Try.prog 50 #[.int .i64 ev, v, .int .i64 p] w (OutL 2 1 (MFirst ev l p).1.length ((MFirst ev l p).1.map vi) (fun u => .tuple #[u, .bool (MFirst ev l p).2]) w) := by
  have A1 := hd (l05Rules_any ev v l p w s)
  have S := hd s
  clear s
  cases h1 : rulesB ev p l with
  | false =>
    have H := hd (show MFirst ev l p = ([], false) by rw [MFirst, okT, h1]; rfl)
    rw [h1] at A1
    clear h1
    go_enter Try.func50, Try.ntmps50
    go_wp2_with (first | (go_at_call 80; refine A1.out.mono ?_; rintro e w' ⟨rfl, hb⟩))
    go_ret2
    rw [H.out]
    exact ⟨_, rfl, World.ownsRow_nil _ _ _ _, hb⟩
  | true =>
    rw [h1] at A1
    have h2 := h1
    simp only [rulesB, Bool.and_eq_true, inR_iff] at h2
    obtain ⟨n, rfl⟩ := Int.eq_ofNat_of_zero_le (show 0 ≤ ev by omega)
    obtain ⟨m, rfl⟩ := Int.eq_ofNat_of_zero_le (show 0 ≤ p by omega)
    by_cases hbig : m ^ (n - 1) ≤ 4096
    · have hok : okT n m l = true := by rw [okT, h1]; simpa using hbig
      have N12 : n ≤ 1048576 := by omega
      have L := hd (fun w' h => l05Look_run n m v l w' (S.out.below h) hok)
      have CL := hd (cnt_le (kbT l n m) (m ^ (n - 1)))
      cases hf : fstT (kbT l n m) (m ^ (n - 1)) with
      | some i =>
        have H := hd (show MFirst n l m = (tabK m n i, true) by rw [MFirst, hok]; simp only [if_true, allT, Int.toNat_natCast, hf])
        have hc : ¬ cntT (kbT l n m) (m ^ (n - 1)) = 0 := fun e => by rw [(fst_none _ _).2 e] at hf; cases hf
        have hc2 : ¬ ((cntT (kbT l n m) (m ^ (n - 1)) : Int) = 0) := by omega
        rw [hf] at L
        generalize cntT (kbT l n m) (m ^ (n - 1)) = cn at *
        clear h1 h2 hok hf hc
        go_enter Try.func50, Try.ntmps50
        go_wp2_with (first | (go_at_call 80; refine A1.out.mono ?_; rintro e w1 ⟨rfl, hb⟩) | (go_at_call 81; refine (L.out _ hb).mono ?_; rintro e w2 ⟨f, b, rfl, k1, k2, hb2⟩; obtain ⟨A1', x1, y1, rfl⟩ := optRow_slice N12 k1; obtain ⟨A2, x2, y2, rfl⟩ := optRow_slice N12 k2))
        go_ret2
        rw [H.out]
        have h3 := below_tr hb2 hb
        have ho : w2.ownsRow w1.heap.size 2 1 _ n ((tabK m n i).map vi) := k1
        refine ⟨_, rfl, ?_, h3.alloc h3.size _⟩
        simp only [tabK_len]
        exact own_mono (ho.alloc _) hb.size
      | none =>
        have H := hd (show MFirst n l m = ([], false) by rw [MFirst, hok]; simp only [if_true, allT, Int.toNat_natCast, hf])
        have hc2 : ((cntT (kbT l n m) (m ^ (n - 1)) : Nat) : Int) = 0 := by rw [(fst_none _ _).1 hf]; rfl
        rw [hc2] at L
        clear h1 h2 hok hf hc2
        go_enter Try.func50, Try.ntmps50
        go_wp2_with (first | (go_at_call 80; refine A1.out.mono ?_; rintro e w1 ⟨rfl, hb⟩) | (go_at_call 81; refine (L.out _ hb).mono ?_; rintro e w2 ⟨f, b, rfl, k1, k2, hb2⟩; obtain ⟨A1', x1, y1, rfl⟩ := optRow_slice N12 k1; obtain ⟨A2, x2, y2, rfl⟩ := optRow_slice N12 k2))
        go_ret2
        rw [H.out]
        have h3 := below_tr hb2 hb
        exact ⟨_, rfl, World.ownsRow_nil _ _ _ _, h3.alloc h3.size _⟩
    · have H := hd (show MFirst n l m = ([], false) by rw [MFirst, okT, h1]; simp [hbig])
      have L := hd (fun w' => l05Look_big n m v l w' (by omega) (by omega) (by omega) (by omega) (by omega))
      clear h1 h2 hbig
      go_enter Try.func50, Try.ntmps50
      go_wp2_with (first | (go_at_call 80; refine A1.out.mono ?_; rintro e w1 ⟨rfl, hb⟩) | (go_at_call 81; refine (L.out _).mono ?_; rintro e w2 ⟨rfl, hb2⟩))
      go_ret2
      rw [H.out]
      have h3 := below_tr hb2 hb
      exact ⟨_, rfl, World.ownsRow_nil _ _ _ _, h3.alloc h3.size _⟩
set_option maxHeartbeats 400000 in
set_option maxRecDepth 100000 in
theorem BestClo_nil (bx bz : Nat) (hne : bx ≠ bz)  (s c : Int) (u : Value) (xs : List Int) (w : World) (hu : Sl w 1 u xs.length (xs.map vi)) (hn0 : 0 < xs.length) (hx : xs.length ≤ 1048576) (hb : w.heap[bx]? = some (.cells #[.slice none 0 0] 22 (0, 0))) (hd0 : w.heap[bz]? = some (.cells #[.int .i64 c] 2 (0, 0)))  :
    Calls Try.prog 105 #[u, .int .i64 s, .pointer (some ⟨bx, 0, none⟩), .pointer (some ⟨bz, 0, none⟩)] w fun e w' => e = .returned (.bool true) ∧ ∃ g cap, w'.heap[bx]? = some (.cells #[.slice (some ⟨g, 0, none⟩) xs.length cap] 22 (0, 0)) ∧ w'.heap[bz]? = some (.cells #[.int .i64 s] 2 (0, 0)) ∧ w'.ownsRow w.heap.size 2 1 (.slice (some ⟨g, 0, none⟩) xs.length cap) xs.length (xs.map vi) ∧ (∃ w1 w2, Below w.heap.size w w1 ∧ w1.grownBy w2 (some bx) ∧ w2.grownBy w' (some bz)) := by
  have hbl : bx < w.heap.size := lt_of_block hb
  have hdl : bz < w.heap.size := lt_of_block hd0
  have hnz : ∀ w : World, (binOp .eql 22 (.slice none 0 0) (.slice none 0 0)).run Try.prog w = .ok (.bool true) w := fun _ => rfl
  have c0 : w.cell? ⟨bx, 0, none⟩ = some (.slice none 0 0) := (cell_of_row _ _ 0 _ _ _ hb).trans rfl
  have d0 : w.cell? ⟨bz, 0, none⟩ = some (.int .i64 c) := (cell_of_row _ _ 0 _ _ _ hd0).trans rfl
  have C := hd (Clone_any u xs w hu hn0 hx)
  have HB := hd hb; have HD := hd hd0
  have hl1 := hx
  generalize hlen : xs.length = m at *
  clear hb hd0 hu hlen
  go_enter Try.func105, Try.ntmps105
  go_wp2_with fail
  refine C.out.mono ?_
  rintro e w1 ⟨z, rfl, ho, hb1, hz⟩
  obtain ⟨A, cap, rfl, hcap, hr, hA⟩ := own_rd ho (size_le hl1)
  obtain ⟨g, rfl, hg1, hg2⟩ : ∃ g, A = some ⟨g, 0, none⟩ ∧ w.heap.size ≤ g ∧ g < w1.heap.size := by
    rcases hA with ⟨rfl, rfl⟩ | h
    · omega
    · exact h
  have hb2 : w1.heap[bx]? = some (.cells #[.slice none 0 0] 22 (0, 0)) := by rw [hb1.block _ hbl]; exact HB.out
  have hd2 : w1.heap[bz]? = some (.cells #[.int .i64 c] 2 (0, 0)) := by rw [hb1.block _ hdl]; exact HD.out
  have Hb2 := hd hb2; have Hd2 := hd hd2; have Ho := hd ho; have Hb1 := hd hb1
  clear hb2 hd2 ho hr hA hz C HB HD c0 d0
  go_wp2_with (first | ((with_reducible refine wpList_store_box _ bx _ _ Hb2.out size_ints 0 (.slice (some ⟨g, 0, none⟩) m cap) ?_ ?_ ?_ ?_ ?_); exact rfl; exact rfl; exact rfl; exact (show 0 < 1 by decide); intro w2 hx2 hg2'; have Hd3 := hd (show w2.heap[bz]? = some (.cells #[.int .i64 c] 2 (0, 0)) from by rw [hg2'.block _ (by have := hb1.size; omega) (by intro e; have := Option.some.inj e; omega)]; exact Hd2.out); have Hx2 := hd hx2; have Hg2 := hd hg2'; clear hx2 hg2') | ((with_reducible refine wpList_store_box _ bz _ _ Hd3.out size_int 0 (.int .i64 s) ?_ ?_ ?_ ?_ ?_); exact rfl; exact rfl; exact rfl; exact (show 0 < 1 by decide); intro w3 hx3 hg3'))
  go_ret
  refine ⟨rfl, g, cap, ?_, hx3, ?_, w1, w2, Hb1.out, Hg2.out, hg3'⟩
  · rw [hg3'.block _ (by have := Hb1.out.size; have := Hg2.out.size; omega) (by intro e; have := Option.some.inj e; omega)]
    exact Hx2.out
  · exact (Ho.out.kept Hg2.out (.inr (by intro e; have := own_slice_block e; omega))).kept hg3' (.inr (by intro e; have := own_slice_block e; omega))

set_option maxHeartbeats 400000 in
set_option maxRecDepth 100000 in
theorem BestClo_less (bx bz : Nat) (hne : bx ≠ bz) (gz nz cz : Nat) (s c : Int) (u : Value) (xs : List Int) (w : World) (hu : Sl w 1 u xs.length (xs.map vi)) (hn0 : 0 < xs.length) (hx : xs.length ≤ 1048576) (hb : w.heap[bx]? = some (.cells #[.slice (some ⟨gz, 0, none⟩) nz cz] 22 (0, 0))) (hd0 : w.heap[bz]? = some (.cells #[.int .i64 c] 2 (0, 0))) (hlt : s < c) :
    Calls Try.prog 105 #[u, .int .i64 s, .pointer (some ⟨bx, 0, none⟩), .pointer (some ⟨bz, 0, none⟩)] w fun e w' => e = .returned (.bool true) ∧ ∃ g cap, w'.heap[bx]? = some (.cells #[.slice (some ⟨g, 0, none⟩) xs.length cap] 22 (0, 0)) ∧ w'.heap[bz]? = some (.cells #[.int .i64 s] 2 (0, 0)) ∧ w'.ownsRow w.heap.size 2 1 (.slice (some ⟨g, 0, none⟩) xs.length cap) xs.length (xs.map vi) ∧ (∃ w1 w2, Below w.heap.size w w1 ∧ w1.grownBy w2 (some bx) ∧ w2.grownBy w' (some bz)) := by
  have hbl : bx < w.heap.size := lt_of_block hb
  have hdl : bz < w.heap.size := lt_of_block hd0
  have hnz : ∀ w : World, (binOp .eql 22 (.slice (some ⟨gz, 0, none⟩) nz cz) (.slice none 0 0)).run Try.prog w = .ok (.bool false) w := fun _ => rfl
  have c0 : w.cell? ⟨bx, 0, none⟩ = some (.slice (some ⟨gz, 0, none⟩) nz cz) := (cell_of_row _ _ 0 _ _ _ hb).trans rfl
  have d0 : w.cell? ⟨bz, 0, none⟩ = some (.int .i64 c) := (cell_of_row _ _ 0 _ _ _ hd0).trans rfl
  have C := hd (Clone_any u xs w hu hn0 hx)
  have HB := hd hb; have HD := hd hd0
  have hl1 := hx
  generalize hlen : xs.length = m at *
  clear hb hd0 hu hlen
  go_enter Try.func105, Try.ntmps105
  go_wp2_with fail
  refine C.out.mono ?_
  rintro e w1 ⟨z, rfl, ho, hb1, hz⟩
  obtain ⟨A, cap, rfl, hcap, hr, hA⟩ := own_rd ho (size_le hl1)
  obtain ⟨g, rfl, hg1, hg2⟩ : ∃ g, A = some ⟨g, 0, none⟩ ∧ w.heap.size ≤ g ∧ g < w1.heap.size := by
    rcases hA with ⟨rfl, rfl⟩ | h
    · omega
    · exact h
  have hb2 : w1.heap[bx]? = some (.cells #[.slice (some ⟨gz, 0, none⟩) nz cz] 22 (0, 0)) := by rw [hb1.block _ hbl]; exact HB.out
  have hd2 : w1.heap[bz]? = some (.cells #[.int .i64 c] 2 (0, 0)) := by rw [hb1.block _ hdl]; exact HD.out
  have Hb2 := hd hb2; have Hd2 := hd hd2; have Ho := hd ho; have Hb1 := hd hb1
  clear hb2 hd2 ho hr hA hz C HB HD c0 d0
  go_wp2_with (first | ((with_reducible refine wpList_store_box _ bx _ _ Hb2.out size_ints 0 (.slice (some ⟨g, 0, none⟩) m cap) ?_ ?_ ?_ ?_ ?_); exact rfl; exact rfl; exact rfl; exact (show 0 < 1 by decide); intro w2 hx2 hg2'; have Hd3 := hd (show w2.heap[bz]? = some (.cells #[.int .i64 c] 2 (0, 0)) from by rw [hg2'.block _ (by have := hb1.size; omega) (by intro e; have := Option.some.inj e; omega)]; exact Hd2.out); have Hx2 := hd hx2; have Hg2 := hd hg2'; clear hx2 hg2') | ((with_reducible refine wpList_store_box _ bz _ _ Hd3.out size_int 0 (.int .i64 s) ?_ ?_ ?_ ?_ ?_); exact rfl; exact rfl; exact rfl; exact (show 0 < 1 by decide); intro w3 hx3 hg3'))
  go_ret
  refine ⟨rfl, g, cap, ?_, hx3, ?_, w1, w2, Hb1.out, Hg2.out, hg3'⟩
  · rw [hg3'.block _ (by have := Hb1.out.size; have := Hg2.out.size; omega) (by intro e; have := Option.some.inj e; omega)]
    exact Hx2.out
  · exact (Ho.out.kept Hg2.out (.inr (by intro e; have := own_slice_block e; omega))).kept hg3' (.inr (by intro e; have := own_slice_block e; omega))

set_option maxHeartbeats 400000 in
set_option maxRecDepth 100000 in
theorem BestClo_same (bx bz : Nat) (hne : bx ≠ bz) (gz nz cz : Nat) (s c : Int) (u : Value) (xs : List Int) (w : World) (hu : Sl w 1 u xs.length (xs.map vi)) (hn0 : 0 < xs.length) (hx : xs.length ≤ 1048576) (hb : w.heap[bx]? = some (.cells #[.slice (some ⟨gz, 0, none⟩) nz cz] 22 (0, 0))) (hd0 : w.heap[bz]? = some (.cells #[.int .i64 c] 2 (0, 0))) (hlt : ¬ s < c) :
    Calls Try.prog 105 #[u, .int .i64 s, .pointer (some ⟨bx, 0, none⟩), .pointer (some ⟨bz, 0, none⟩)] w fun e w' => e = .returned (.bool true) ∧ w' = w := by
  have hnz : ∀ w : World, (binOp .eql 22 (.slice (some ⟨gz, 0, none⟩) nz cz) (.slice none 0 0)).run Try.prog w = .ok (.bool false) w := fun _ => rfl
  have c0 : w.cell? ⟨bx, 0, none⟩ = some (.slice (some ⟨gz, 0, none⟩) nz cz) := (cell_of_row _ _ 0 _ _ _ hb).trans rfl
  have d0 : w.cell? ⟨bz, 0, none⟩ = some (.int .i64 c) := (cell_of_row _ _ 0 _ _ _ hd0).trans rfl
  clear hb hd0 hu
  go_enter Try.func105, Try.ntmps105
  go_wp2
  go_ret
  exact ⟨rfl, rfl⟩

/-- what holds between the tables: the two boxes, and the row that one of them holds -/
def BestInv (l : List Q4) (n m : Nat) (w : World) (g k : Nat) (w2 : World) : Prop := ∃ z, w2.heap[w.heap.size]? = some (.cells #[z] 22 (0, 0)) ∧ w2.heap[w.heap.size + 1]? = some (.cells #[.int .i64 (lstT (kbT l n m) (smT l n m) k)] 2 (0, 0)) ∧
  OptRow n m (w.heap.size + 2) w2 z (bstT (kbT l n m) (smT l n m) k) ∧ (∀ q, z.ownBlock = some q → q ≠ g) ∧ (bstT (kbT l n m) (smT l n m) k = none ∨ ∃ gz cz, z = .slice (some ⟨gz, 0, none⟩) n cz) ∧ Below w.heap.size w w2 ∧ w.heap.size + 2 ≤ w2.heap.size
theorem bestInv_grown {l : List Q4} {n m : Nat} {w : World} {g k : Nat} {w2 w3 : World} (h : BestInv l n m w g k w2) (hg : w.heap.size + 2 ≤ g) (hgr : w2.grownBy w3 (some g)) : BestInv l n m w g k w3 := by
  obtain ⟨z, h1, h2, h3, h4, h5, h6, h7⟩ := h
  refine ⟨z, ?_, ?_, optRow_kept2 h3 hgr (fun q hq e => h4 _ e (Option.some.inj hq.symm)), h4, h5, below_row hgr h6 (fun q hq => by have := Option.some.inj hq; omega), by have := hgr.size; omega⟩
  · rw [hgr.block _ (lt_of_block h1) (by intro e; have := Option.some.inj e; omega)]; exact h1
  · rw [hgr.block _ (lt_of_block h2) (by intro e; have := Option.some.inj e; omega)]; exact h2
theorem bestInv_no {l : List Q4} {n m : Nat} {w : World} {g k : Nat} {w2 : World} (h : BestInv l n m w g k w2) (hk : kbT l n m k = false) : BestInv l n m w g (k + 1) w2 := by
  obtain ⟨z, h1, h2, h3, h4, h5, h6⟩ := h
  obtain ⟨_, _, e1, e2⟩ := tab_no (sm := smT l n m) hk
  exact ⟨z, h1, by rw [e2]; exact h2, by rw [e1]; exact h3, h4, by rw [e1]; exact h5, h6⟩
theorem bestInv_new {l : List Q4} {n m : Nat} {w : World} {g k : Nat} {w2 w3 wa wb : World} {gz cz : Nat} (h : BestInv l n m w g k w2) (hgs : g < w2.heap.size) (e1 : bstT (kbT l n m) (smT l n m) (k + 1) = some k) (e2 : lstT (kbT l n m) (smT l n m) (k + 1) = smT l n m k)
    (a1 : w3.heap[w.heap.size]? = some (.cells #[.slice (some ⟨gz, 0, none⟩) n cz] 22 (0, 0))) (a2 : w3.heap[w.heap.size + 1]? = some (.cells #[.int .i64 (smT l n m k)] 2 (0, 0)))
    (a3 : w3.ownsRow w2.heap.size 2 1 (.slice (some ⟨gz, 0, none⟩) n cz) n ((tabK m n k).map vi)) (b1 : Below w2.heap.size w2 wa) (b2 : wa.grownBy wb (some w.heap.size)) (b3 : wb.grownBy w3 (some (w.heap.size + 1))) : BestInv l n m w g (k + 1) w3 := by
  obtain ⟨z, h1, h2, h3, h4, h5, h6, h7⟩ := h
  have hgz := (World.ownsRow.lt a3 gz rfl).1
  refine ⟨_, a1, by rw [e2]; exact a2, by rw [e1]; exact own_mono a3 h7, fun q hq => by have := own_slice_block hq; omega, .inr ⟨_, _, rfl⟩, below_row b3 (below_row b2 (below_tr b1 h6) (fun q hq => by have := Option.some.inj hq; omega)) (fun q hq => by have := Option.some.inj hq; omega), ?_⟩
  have := b1.size; have := b2.size; have := b3.size; omega
set_option maxHeartbeats 1000000 in
set_option maxRecDepth 100000 in
theorem BestTable_any (w : World) (ev : Int) (v : Value) (l : List Q4) (s : Sl w 4 v l.length (q4s l)) (p : Int) :
    Calls Try.prog 53 #[.int .i64 ev, v, .int .i64 p] w (OutL 2 1 (MBest ev l p).1.length ((MBest ev l p).1.map vi) (fun u => .tuple #[u, .int .i64 (MBest ev l p).2.1, .bool (MBest ev l p).2.2]) w) := by
  have hmf : ∀ (fn : Fn) (first cap : Array Value) (w : World), (Instr.makeFunc fn first cap).run Try.prog w = .ok (.func fn first cap) w := fun _ _ _ _ => rfl
  have hnn : ∀ w : World, (binOp .neq 22 (.slice none 0 0) (.slice none 0 0)).run Try.prog w = .ok (.bool false) w := fun _ => rfl
  have S := hd s
  cases hok : okT ev p l with
  | false =>
    have H := hd (show MBest ev l p = ([], 0, false) by rw [MBest, hok]; rfl)
    have T := hd (fun w' h => tables_BestTable_no w.heap.size (w.heap.size + 1) ev p v l w' (S.out.below h) hok)
    clear hok s
    go_enter Try.func53, Try.ntmps53
    go_wp2_with fail
    refine (T.out _ (by go_grown)).mono ?_
    rintro e w1 ⟨rfl, hb⟩
    have hbx : w1.heap[w.heap.size]? = some (.cells #[.slice none 0 0] 22 (0, 0)) := by rw [hb.block _ (by simp; try omega)]; simp only [heap_alloc_get, World.size_alloc]; simp
    have hbz : w1.heap[w.heap.size + 1]? = some (.cells #[.int .i64 0] 2 (0, 0)) := by rw [hb.block _ (by simp)]; simp only [heap_alloc_get, World.size_alloc]; simp
    have c0 : w1.cell? ⟨w.heap.size, 0, none⟩ = some (.slice none 0 0) := (cell_of_row _ _ 0 _ _ _ hbx).trans rfl
    have d0 : w1.cell? ⟨w.heap.size + 1, 0, none⟩ = some (.int .i64 0) := (cell_of_row _ _ 0 _ _ _ hbz).trans rfl
    have hb2 : Below w.heap.size w w1 := below_tr hb (by go_grown)
    have HB := hd hb2
    clear hb hb2 hbx hbz
    go_wp2
    go_quiet (fail)
    go_wp2
    go_ret3
    rw [H.out]
    exact ⟨_, rfl, World.ownsRow_nil _ _ _ _, by first | exact HB.out | exact below_drewN HB.out _ | exact below_drewN (below_drewN HB.out _) _⟩
  | true =>
    obtain ⟨n, m, rfl, rfl⟩ := okT_nat hok
    obtain ⟨_, _, n1, n12, _, _, _⟩ := okT_facts hok
    have H1 := hd (fun i (h : bstT (kbT l n m) (smT l n m) (m ^ (n - 1)) = some i) => (show MBest n l m = (tabK m n i, smT l n m i, true) by rw [MBest, hok]; simp only [if_true, allT, Int.toNat_natCast, h]))
    have H2 := hd (fun (h : bstT (kbT l n m) (smT l n m) (m ^ (n - 1)) = none) => (show MBest n l m = ([], 0, false) by rw [MBest, hok]; simp only [if_true, allT, Int.toNat_natCast, h]))
    have T := hd (fun w1 (hB : Below w.heap.size w w1) (hs1 : w1.heap.size = w.heap.size + 2) (hx : w1.heap[w.heap.size]? = some (.cells #[.slice none 0 0] 22 (0, 0))) (hz : w1.heap[w.heap.size + 1]? = some (.cells #[.int .i64 0] 2 (0, 0))) =>
      tables_BestTable_run2 w.heap.size (w.heap.size + 1) n m v l w1 hok true (fun g k w2 => BestInv l n m w g k w2) (fun _ => True)
        (fun g k w2 h => by obtain ⟨_, _, _, _, _, _, h6, _⟩ := h; exact S.out.below h6) (fun g k w2 h => by obtain ⟨_, _, _, _, _, _, _, h7⟩ := h; omega)
        (fun g k w2 w3 h hg hgr => bestInv_grown h (by omega) hgr)
        (fun g k w2 hk hkb h => bestInv_no h hkb)
        (fun g k w2 u hk hkb hg hgs h hu => by
          have hkb2 : kbT l n m k = true := hkb
          have hu2 : Sl w2 1 u (tabK m n k).length ((tabK m n k).map vi) := by rw [tabK_len]; exact hu
          have hl0 : 0 < (tabK m n k).length := by rw [tabK_len]; omega
          have hl1 : (tabK m n k).length ≤ 1048576 := by rw [tabK_len]; omega
          have hfr : ∀ {w3 wa wb : World}, Below w2.heap.size w2 wa → wa.grownBy wb (some w.heap.size) → wb.grownBy w3 (some (w.heap.size + 1)) → ∀ i, w1.heap.size ≤ i → i < w2.heap.size → w3.heap[i]? = w2.heap[i]? := by
            intro w3 wa wb b1 b2 b3 i hi1 hi2
            have := b1.size; have := b2.size
            rw [b3.block i (by omega) (by intro e; have := Option.some.inj e; omega), b2.block i (by omega) (by intro e; have := Option.some.inj e; omega)]
            exact b1.block i hi2
          have h' := h
          obtain ⟨z, h1, h2, h3, h4, h5, h6, h7⟩ := h
          cases hbk : bstT (kbT l n m) (smT l n m) k with
          | none =>
            have hc0 := (bst_none (kbT l n m) (smT l n m) k).1 hbk
            obtain ⟨_, _, e1, e2⟩ := tab_new (sm := smT l n m) hkb2 hc0
            rw [hbk] at h3
            have hz0 : z = .slice none 0 0 := h3
            subst hz0
            refine (BestClo_nil w.heap.size (w.heap.size + 1) (by omega) _ _ u (tabK m n k) w2 hu2 hl0 hl1 h1 h2).mono ?_
            rintro e w3 ⟨rfl, gz, cz, a1, a2, a3, wa, wb, b1, b2, b3⟩
            rw [tabK_len] at a1 a3
            refine ⟨rfl, ?_, hfr b1 b2 b3⟩
            rw [if_pos rfl]
            exact bestInv_new h' hgs e1 e2 a1 a2 a3 b1 b2 b3
          | some j =>
            have hc0 : ¬ cntT (kbT l n m) k = 0 := fun e => by rw [(bst_none (kbT l n m) (smT l n m) k).2 e] at hbk; cases hbk
            rcases h5 with h5 | ⟨gz0, cz0, rfl⟩
            · rw [hbk] at h5; cases h5
            by_cases hlt : smT l n m k < lstT (kbT l n m) (smT l n m) k
            · obtain ⟨_, _, e1, e2⟩ := tab_more (sm := smT l n m) hkb2 hc0 hlt
              refine (BestClo_less w.heap.size (w.heap.size + 1) (by omega) gz0 n cz0 _ _ u (tabK m n k) w2 hu2 hl0 hl1 h1 h2 hlt).mono ?_
              rintro e w3 ⟨rfl, gz, cz, a1, a2, a3, wa, wb, b1, b2, b3⟩
              rw [tabK_len] at a1 a3
              refine ⟨rfl, ?_, hfr b1 b2 b3⟩
              rw [if_pos rfl]
              exact bestInv_new h' hgs e1 e2 a1 a2 a3 b1 b2 b3
            · obtain ⟨_, _, e1, e2⟩ := tab_same (sm := smT l n m) hkb2 hc0 hlt
              refine (BestClo_same w.heap.size (w.heap.size + 1) (by omega) gz0 n cz0 _ _ u (tabK m n k) w2 hu2 hl0 hl1 h1 h2 hlt).mono ?_
              rintro e w3 ⟨rfl, rfl⟩
              refine ⟨rfl, ?_, fun i _ _ => rfl⟩
              rw [if_pos rfl]
              exact ⟨_, h1, by rw [e2]; exact h2, by rw [e1]; exact h3, h4, .inr ⟨_, _, rfl⟩, h6, h7⟩)
        (fun g hg => ⟨_, hx, hz, rfl, (fun q hq => by cases hq), .inl rfl, hB, by omega⟩))
    clear hok s
    go_enter Try.func53, Try.ntmps53
    go_wp2_with fail
    refine (T.out _ (by go_grown) (by simp) (by simp only [heap_alloc_get, World.size_alloc]; simp) (by simp only [heap_alloc_get, World.size_alloc]; simp)).mono ?_
    rintro e w1 ⟨rfl, g, h⟩
    simp only [if_true] at h
    obtain ⟨z, h1, h2, h3, h4, h5, h6, h7⟩ := h
    have d0 : w1.cell? ⟨w.heap.size + 1, 0, none⟩ = some (.int .i64 (lstT (kbT l n m) (smT l n m) (m ^ (n - 1)))) := (cell_of_row _ _ 0 _ _ _ h2).trans rfl
    cases hbk : bstT (kbT l n m) (smT l n m) (m ^ (n - 1)) with
    | some i =>
      rcases h5 with h5 | ⟨gz, cz, rfl⟩
      · rw [hbk] at h5; cases h5
      have hl : lstT (kbT l n m) (smT l n m) (m ^ (n - 1)) = smT l n m i := by rw [lstT, hbk]
      rw [hl] at d0
      have hnz : ∀ w : World, (binOp .neq 22 (.slice (some ⟨gz, 0, none⟩) n cz) (.slice none 0 0)).run Try.prog w = .ok (.bool true) w := fun _ => rfl
      have c0 : w1.cell? ⟨w.heap.size, 0, none⟩ = some (.slice (some ⟨gz, 0, none⟩) n cz) := (cell_of_row _ _ 0 _ _ _ h1).trans rfl
      have H := hd (H1.out i hbk)
      rw [hbk] at h3
      have ho : w1.ownsRow (w.heap.size + 2) 2 1 (.slice (some ⟨gz, 0, none⟩) n cz) n ((tabK m n i).map vi) := h3
      have Ho := hd ho; have HB := hd h6
      clear h1 h2 h3 h4 h6 h7 ho hbk hl
      generalize smT l n m i = sv at *
      go_wp2
      go_quiet (fail)
      go_wp2
      go_ret3
      rw [H.out]
      refine ⟨_, rfl, ?_, by first | exact HB.out | exact below_drewN HB.out _ | exact below_drewN (below_drewN HB.out _) _⟩
      simp only [tabK_len]
      exact own_mono Ho.out (by omega)
    | none =>
      have hl : lstT (kbT l n m) (smT l n m) (m ^ (n - 1)) = 0 := by rw [lstT, hbk]
      rw [hl] at d0
      rw [hbk] at h3
      have hz0 : z = .slice none 0 0 := h3
      subst hz0
      have c0 : w1.cell? ⟨w.heap.size, 0, none⟩ = some (.slice none 0 0) := (cell_of_row _ _ 0 _ _ _ h1).trans rfl
      have H := hd (H2.out hbk)
      have HB := hd h6
      clear h1 h2 h3 h4 h5 h6 h7 hbk hl
      go_wp2
      go_quiet (fail)
      go_wp2
      go_ret3
      rw [H.out]
      exact ⟨_, rfl, World.ownsRow_nil _ _ _ _, by first | exact HB.out | exact below_drewN HB.out _ | exact below_drewN (below_drewN HB.out _) _⟩

set_option maxHeartbeats 1000000 in
set_option maxRecDepth 100000 in
theorem specBestTable_any (w : World) (ev : Int) (v : Value) (l : List Q4) (s : Sl w 4 v l.length (q4s l)) (p : Int) :
    Calls Try.prog 52 #[.int .i64 ev, v, .int .i64 p] w (OutL 2 1 (MBest ev l p).1.length ((MBest ev l p).1.map vi) (fun u => .tuple #[u, .int .i64 (MBest ev l p).2.1, .bool (MBest ev l p).2.2]) w) := by
  have A1 := hd (l05Rules_any ev v l p w s)
  have S := hd s
  clear s
  cases h1 : rulesB ev p l with
  | false =>
    have H := hd (show MBest ev l p = ([], 0, false) by rw [MBest, okT, h1]; rfl)
    rw [h1] at A1
    clear h1
    go_enter Try.func52, Try.ntmps52
    go_wp2_with (first | (go_at_call 80; refine A1.out.mono ?_; rintro e w' ⟨rfl, hb⟩))
    go_ret3
    rw [H.out]
    exact ⟨_, rfl, World.ownsRow_nil _ _ _ _, hb⟩
  | true =>
    rw [h1] at A1
    have h2 := h1
    simp only [rulesB, Bool.and_eq_true, inR_iff] at h2
    obtain ⟨n, rfl⟩ := Int.eq_ofNat_of_zero_le (show 0 ≤ ev by omega)
    obtain ⟨m, rfl⟩ := Int.eq_ofNat_of_zero_le (show 0 ≤ p by omega)
    by_cases hbig : m ^ (n - 1) ≤ 4096
    · have hok : okT n m l = true := by rw [okT, h1]; simpa using hbig
      have N12 : n ≤ 1048576 := by omega
      have L := hd (fun w' h => l05Look_run n m v l w' (S.out.below h) hok)
      have CL := hd (cnt_le (kbT l n m) (m ^ (n - 1)))
      cases hf : bstT (kbT l n m) (smT l n m) (m ^ (n - 1)) with
      | some i =>
        have H := hd (show MBest n l m = (tabK m n i, smT l n m i, true) by rw [MBest, hok]; simp only [if_true, allT, Int.toNat_natCast, hf])
        have hc : ¬ cntT (kbT l n m) (m ^ (n - 1)) = 0 := fun e => by rw [(bst_none _ (smT l n m) _).2 e] at hf; cases hf
        have hc2 : ¬ ((cntT (kbT l n m) (m ^ (n - 1)) : Int) = 0) := by omega
        have hl : lstT (kbT l n m) (smT l n m) (m ^ (n - 1)) = smT l n m i := by rw [lstT, hf]
        rw [hf, hl] at L
        clear hl
        generalize smT l n m i = sv at *
        generalize cntT (kbT l n m) (m ^ (n - 1)) = cn at *
        clear h1 h2 hok hf hc
        go_enter Try.func52, Try.ntmps52
        go_wp2_with (first | (go_at_call 80; refine A1.out.mono ?_; rintro e w1 ⟨rfl, hb⟩) | (go_at_call 81; refine (L.out _ hb).mono ?_; rintro e w2 ⟨f, b, rfl, k1, k2, hb2⟩; obtain ⟨A1', x1, y1, rfl⟩ := optRow_slice N12 k1; obtain ⟨A2, x2, y2, rfl⟩ := optRow_slice N12 k2))
        go_quiet (fail)
        go_wp2
        go_ret3
        rw [H.out]
        have h3 := below_tr hb2 hb
        have ho : w2.ownsRow w1.heap.size 2 1 _ n ((tabK m n i).map vi) := k2
        refine ⟨_, rfl, ?_, below_drewN (h3.alloc h3.size _) _⟩
        simp only [tabK_len]
        exact own_mono (ho.alloc _) hb.size
      | none =>
        have H := hd (show MBest n l m = ([], 0, false) by rw [MBest, hok]; simp only [if_true, allT, Int.toNat_natCast, hf])
        have hc2 : ((cntT (kbT l n m) (m ^ (n - 1)) : Nat) : Int) = 0 := by rw [(bst_none _ (smT l n m) _).1 hf]; rfl
        rw [hc2] at L
        clear h1 h2 hok hf hc2
        go_enter Try.func52, Try.ntmps52
        go_wp2_with (first | (go_at_call 80; refine A1.out.mono ?_; rintro e w1 ⟨rfl, hb⟩) | (go_at_call 81; refine (L.out _ hb).mono ?_; rintro e w2 ⟨f, b, rfl, k1, k2, hb2⟩; obtain ⟨A1', x1, y1, rfl⟩ := optRow_slice N12 k1; obtain ⟨A2, x2, y2, rfl⟩ := optRow_slice N12 k2))
        go_ret3
        rw [H.out]
        have h3 := below_tr hb2 hb
        exact ⟨_, rfl, World.ownsRow_nil _ _ _ _, h3.alloc h3.size _⟩
    · have H := hd (show MBest n l m = ([], 0, false) by rw [MBest, okT, h1]; simp [hbig])
      have L := hd (fun w' => l05Look_big n m v l w' (by omega) (by omega) (by omega) (by omega) (by omega))
      clear h1 h2 hbig
      go_enter Try.func52, Try.ntmps52
      go_wp2_with (first | (go_at_call 80; refine A1.out.mono ?_; rintro e w1 ⟨rfl, hb⟩) | (go_at_call 81; refine (L.out _).mono ?_; rintro e w2 ⟨rfl, hb2⟩))
      go_ret3
      rw [H.out]
      have h3 := below_tr hb2 hb
      exact ⟨_, rfl, World.ownsRow_nil _ _ _ _, h3.alloc h3.size _⟩
end Go.Proofs.Ytahhmpaaggeakaa
