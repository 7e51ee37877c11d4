/- The orders of jobs by a rule: contracts. -/
import Derived.Test.YtjddlgmdbkaieaaJobK
import Derived.Test.YtjddlgmdbkaieaaOwnF
import Derived.Deep.CutRange
namespace Go.Proofs.Ytjddlgmdbkaieaa
open Go.RowKit Plain
set_option linter.unusedVariables false
set_option linter.unusedSimpArgs false
attribute [local go_sem ↓] Go.wp_at_zero Go.wp_at_succ
/-- a new row of the call's own, of numbers -/
def NewI (d : List Int) (n : Nat) (w : World) (r : Ending) (w' : World) : Prop := ∃ u, r = .returned u ∧ w'.ownsRow w.heap.size 2 1 u n (d.map vi) ∧ Below w.heap.size w w'
theorem block_ne {w : World} {A : Option Addr} {n : Nat} {l : List Q4} (hr : Rd w 4 A n (q4s l)) (n1 : 1 ≤ n) (g : Nat) (hg : w.heap.size ≤ g) : A.map (·.block) ≠ some g := fun e => by
  obtain ⟨b, off, _, _, _, _, rfl, _, c0, _⟩ := hr.q4 (show 0 < n by omega)
  have := block_lt_of_cell c0
  simp only [Option.map_some, Option.some.injEq] at e
  simp only at this
  omega
set_option maxHeartbeats 2000000 in
theorem sortT_any (l : List Q4) (A : Option Addr) (n cap bT : Nat) (n1 : 1 ≤ n) (n19 : n ≤ 19) (w : World) (hc : w.cell? ⟨bT, 0, none⟩ = some (.slice A n cap)) (hr : Rd w 4 A n (q4s l)) :
    Calls Try.prog 33 #[.int .i64 n, .func (.func 34) #[] #[.pointer (some ⟨bT, 0, none⟩)]] w (NewI (sortL (tK l) (upTo n) n) n w) := by
  have hbT : bT < w.heap.size := block_lt_of_cell hc
  have HC := hd hc
  have HR := hd hr
  have HAb := hd (block_ne hr n1)
  have ST := hd (fun bK w g cd base ho (hk : KeyT 34 w bT bK A n cap l) e1 e2 e3 => stableS_any (tK l) n bK n1 n19 w g cd base (upTo n) ho (inL_upTo n) (fun wr hg i j hi hj m => by
    have hk2 := hk.grown hg e1 e2 e3
    exact lessT_any l A n cap bT bK i j hi hj (wr.drewN m) ⟨hk2.t, hk2.k, hk2.r⟩))
  clear hc hr
  go_enter Try.func33, Try.ntmps33
  go_wp2_with fail
  go_at_call 37
  obtain ⟨W, hW⟩ : ∃ W, W = w.alloc (.cells #[.func (.func 34) #[] #[.pointer (some ⟨bT, 0, none⟩)]] 49) := ⟨_, rfl⟩
  have hk1 : W.cell? ⟨w.heap.size, 0, none⟩ = some (.func (.func 34) #[] #[.pointer (some ⟨bT, 0, none⟩)]) := by rw [hW]; exact (World.cell?_alloc_new ..).trans rfl
  have hb1 : Below w.heap.size w W := by rw [hW]; exact (Below.refl _ _).alloc (Nat.le_refl _) _
  have hs1 : w.heap.size < W.heap.size := by rw [hW]; simp
  rw [← hW]
  clear hW
  refine (counting_any n (by omega) W).mono ?_
  rintro e w2 ⟨u, rfl, ho, hb2⟩
  obtain ⟨g, cd, rfl, hg, _⟩ := own_form ho n1
  have hB2 := below_tr hb2 hb1
  have S := ST.out w.heap.size w2 g cd W.heap.size ho ⟨below_at hB2 HC.out, below_at hb2 hk1, HR.out.below hB2⟩ (by omega) (by omega) (HAb.out g (by omega))
  have S := hd S
  have HB2 := hd hB2
  have HW := hd (show w.heap.size ≤ W.heap.size by omega)
  have HGg := hd (show w.heap.size ≤ g by omega)
  clear ho hb2 hB2 hk1 hb1 hs1 hg ST
  go_wp2_with fail
  go_at_call 38
  refine S.out.mono ?_
  rintro e w3 ⟨⟨v, rfl⟩, h2, h3⟩
  have H2 := hd h2
  have H3 := hd h3
  clear h2 h3 S
  go_wp2
  go_ret
  exact ⟨_, rfl, own_mono H2.out HW.out, below_row H3.out HB2.out (fun k e => by cases e; exact HGg.out)⟩
set_option maxHeartbeats 2000000 in
theorem sortD_any (l : List Q4) (A : Option Addr) (n cap bT : Nat) (n1 : 1 ≤ n) (n19 : n ≤ 19) (w : World) (hc : w.cell? ⟨bT, 0, none⟩ = some (.slice A n cap)) (hr : Rd w 4 A n (q4s l)) :
    Calls Try.prog 33 #[.int .i64 n, .func (.func 35) #[] #[.pointer (some ⟨bT, 0, none⟩)]] w (NewI (sortL (dK l) (upTo n) n) n w) := by
  have hbT : bT < w.heap.size := block_lt_of_cell hc
  have HC := hd hc
  have HR := hd hr
  have HAb := hd (block_ne hr n1)
  have ST := hd (fun bK w g cd base ho (hk : KeyT 35 w bT bK A n cap l) e1 e2 e3 => stableS_any (dK l) n bK n1 n19 w g cd base (upTo n) ho (inL_upTo n) (fun wr hg i j hi hj m => by
    have hk2 := hk.grown hg e1 e2 e3
    exact lessD_any l A n cap bT bK i j hi hj (wr.drewN m) ⟨hk2.t, hk2.k, hk2.r⟩))
  clear hc hr
  go_enter Try.func33, Try.ntmps33
  go_wp2_with fail
  go_at_call 37
  obtain ⟨W, hW⟩ : ∃ W, W = w.alloc (.cells #[.func (.func 35) #[] #[.pointer (some ⟨bT, 0, none⟩)]] 49) := ⟨_, rfl⟩
  have hk1 : W.cell? ⟨w.heap.size, 0, none⟩ = some (.func (.func 35) #[] #[.pointer (some ⟨bT, 0, none⟩)]) := by rw [hW]; exact (World.cell?_alloc_new ..).trans rfl
  have hb1 : Below w.heap.size w W := by rw [hW]; exact (Below.refl _ _).alloc (Nat.le_refl _) _
  have hs1 : w.heap.size < W.heap.size := by rw [hW]; simp
  rw [← hW]
  clear hW
  refine (counting_any n (by omega) W).mono ?_
  rintro e w2 ⟨u, rfl, ho, hb2⟩
  obtain ⟨g, cd, rfl, hg, _⟩ := own_form ho n1
  have hB2 := below_tr hb2 hb1
  have S := ST.out w.heap.size w2 g cd W.heap.size ho ⟨below_at hB2 HC.out, below_at hb2 hk1, HR.out.below hB2⟩ (by omega) (by omega) (HAb.out g (by omega))
  have S := hd S
  have HB2 := hd hB2
  have HW := hd (show w.heap.size ≤ W.heap.size by omega)
  have HGg := hd (show w.heap.size ≤ g by omega)
  clear ho hb2 hB2 hk1 hb1 hs1 hg ST
  go_wp2_with fail
  go_at_call 38
  refine S.out.mono ?_
  rintro e w3 ⟨⟨v, rfl⟩, h2, h3⟩
  have H2 := hd h2
  have H3 := hd h3
  clear h2 h3 S
  go_wp2
  go_ret
  exact ⟨_, rfl, own_mono H2.out HW.out, below_row H3.out HB2.out (fun k e => by cases e; exact HGg.out)⟩
set_option maxHeartbeats 2000000 in
theorem orderByT_any (U : Value) (l : List Q4) (n : Nat) (n19 : n ≤ 19) (w : World) (hj : JobsAt w U l n) :
    Calls Try.prog 22 #[U, .int .i64 0] w (NewI (sortL (tK l) (upTo n) n) n w) := by
  have n1 := hj.n1
  obtain ⟨A, cap, rfl, hcap, hr⟩ := hj.sl
  have HB := hd ((Below.refl _ w).alloc (Nat.le_refl _) (.cells #[.slice A n cap] 25))
  have HC := hd (show (w.alloc (.cells #[.slice A n cap] 25)).cell? ⟨w.heap.size, 0, none⟩ = some (.slice A n cap) from (World.cell?_alloc_new ..).trans rfl)
  have S := hd (sortT_any l A n cap w.heap.size n1 n19 _ HC.out (hr.below HB.out))
  clear hr hj
  go_enter Try.func22, Try.ntmps22
  go_wp2_with fail
  go_at_call 33
  refine S.out.mono ?_
  rintro e w3 ⟨u, rfl, ho, hb⟩
  go_wp2
  go_ret
  exact ⟨_, rfl, own_mono ho (by simp), below_tr hb HB.out⟩
set_option maxHeartbeats 2000000 in
theorem orderByD_any (U : Value) (l : List Q4) (n : Nat) (n19 : n ≤ 19) (w : World) (hj : JobsAt w U l n) :
    Calls Try.prog 22 #[U, .int .i64 1] w (NewI (sortL (dK l) (upTo n) n) n w) := by
  have n1 := hj.n1
  obtain ⟨A, cap, rfl, hcap, hr⟩ := hj.sl
  have HB := hd ((Below.refl _ w).alloc (Nat.le_refl _) (.cells #[.slice A n cap] 25))
  have HC := hd (show (w.alloc (.cells #[.slice A n cap] 25)).cell? ⟨w.heap.size, 0, none⟩ = some (.slice A n cap) from (World.cell?_alloc_new ..).trans rfl)
  have S := hd (sortD_any l A n cap w.heap.size n1 n19 _ HC.out (hr.below HB.out))
  clear hr hj
  go_enter Try.func22, Try.ntmps22
  go_wp2_with fail
  go_at_call 33
  refine S.out.mono ?_
  rintro e w3 ⟨u, rfl, ho, hb⟩
  go_wp2
  go_ret
  exact ⟨_, rfl, own_mono ho (by simp), below_tr hb HB.out⟩
set_option maxHeartbeats 2000000 in
theorem orderByW_any (U : Value) (l : List Q4) (n : Nat) (n19 : n ≤ 19) (h9 : ∀ q ∈ l, (1 ≤ q.a ∧ q.a ≤ 9) ∧ 0 ≤ q.d ∧ q.d ≤ 10000) (w : World) (hj : JobsAt w U l n) :
    Calls Try.prog 22 #[U, .int .i64 3] w (NewI (sortL (wK l) (upTo n) n) n w) := by
  have n1 := hj.n1
  obtain ⟨A, cap, rfl, hcap, hr⟩ := hj.sl
  have HB := hd ((Below.refl _ w).alloc (Nat.le_refl _) (.cells #[.slice A n cap] 25))
  have HC := hd (show (w.alloc (.cells #[.slice A n cap] 25)).cell? ⟨w.heap.size, 0, none⟩ = some (.slice A n cap) from (World.cell?_alloc_new ..).trans rfl)
  have HAb := hd (block_ne hr n1)
  have HR := hd hr
  have ST := hd (fun w9 g cd base ho (hc : w9.cell? ⟨w.heap.size, 0, none⟩ = some (.slice A n cap)) (hr : Rd w9 4 A n (q4s l)) e1 (e3 : A.map (·.block) ≠ some g) => stableW_any (wK l) n w.heap.size n1 n19 w9 g cd base (upTo n) ho (inL_upTo n) (fun wr hg i j hi hj m =>
    lessW_any l h9 A n cap w.heap.size i j hi hj (wr.drewN m) (hg.cell hc (by simp; omega)) (show Rd (wr.drewN m) 4 A n (q4s l) from (show Rd wr 4 A n (q4s l) from hr.grown hg (.inl e3)))))
  clear hr hj
  go_enter Try.func22, Try.ntmps22
  go_wp2_with fail
  go_at_call 37
  refine (counting_any n (by omega) _).mono ?_
  rintro e w2 ⟨u, rfl, ho, hb2⟩
  have hsz : (w.alloc (.cells #[.slice A n cap] 25)).heap.size = w.heap.size + 1 := by simp
  obtain ⟨g, cd, rfl, hg, _⟩ := own_form ho n1
  have hB2 := below_tr hb2 HB.out
  have S := hd (ST.out w2 g cd _ ho (below_at hb2 HC.out) (HR.out.below hB2) (by omega) (HAb.out g (by omega)))
  have HB2 := hd hB2
  have HGg := hd (show w.heap.size ≤ g by omega)
  clear ho hb2 hB2 hg ST
  go_wp2_with fail
  go_at_call 38
  refine S.out.mono ?_
  rintro e w3 ⟨⟨v, rfl⟩, h2, h3⟩
  have H2 := hd h2
  have H3 := hd h3
  clear h2 h3 S
  go_wp2
  go_ret
  exact ⟨_, rfl, own_mono H2.out (by rw [hsz]; omega), below_row H3.out HB2.out (fun k e => by cases e; exact HGg.out)⟩
/-- an order by keys -/
def OrderOut (K : Int → Int) (n : Nat) (w : World) (r : Ending) (w' : World) : Prop :=
  ∃ u d, r = .returned (.tuple #[u, .bool true]) ∧ w'.ownsRow w.heap.size 2 1 u n (d.map vi) ∧ d.length = n ∧ (∀ k, k < n → 0 ≤ d.getD k 0) ∧ Perm (ordF d) n ∧ (∀ a b, a < b → b < n → K (ordF d a : Int) ≤ K (ordF d b : Int)) ∧ Below w.heap.size w w'
theorem sorted_order (K : Int → Int) (n : Nat) : (sortL K (upTo n) n).length = n ∧ (∀ k, k < n → 0 ≤ (sortL K (upTo n) n).getD k 0) ∧ Perm (ordF (sortL K (upTo n) n)) n ∧ (∀ a b, a < b → b < n → K (ordF (sortL K (upTo n) n) a : Int) ≤ K (ordF (sortL K (upTo n) n) b : Int)) := by
  have hl : (sortL K (upTo n) n).length = n := by rw [sortL_len, upTo_len]
  have h1 := inL_sort K (inL_upTo n) n (by rw [upTo_len]; exact Nat.le_refl _)
  have h2 := oneL_sort K (oneL_upTo n) n (by rw [upTo_len]; exact Nat.le_refl _)
  have h3 := sortL_ord K (upTo n) n (by rw [upTo_len]; exact Nat.le_refl _)
  have hn : ∀ k, k < n → 0 ≤ (sortL K (upTo n) n).getD k 0 := fun k hk => (h1 k (by omega)).1
  refine ⟨hl, hn, perm_of hl h1 h2, fun a b hab hb => ?_⟩
  rw [ordF, ordF, Int.toNat_of_nonneg (hn a (by omega)), Int.toNat_of_nonneg (hn b hb)]
  exact h3 a b hab hb
set_option maxHeartbeats 1000000 in
theorem OrderByT_any (U : Value) (l : List Q4) (n : Nat) (n19 : n ≤ 19) (w : World) (hj : JobsAt w U l n) :
    Calls Try.prog 8 #[U, .int .i64 0] w (OrderOut (tK l) n w) := by
  have HI := hd (AreJobs_any U l n w hj)
  have HO := hd (fun w' (hb : Below w.heap.size w w') => orderByT_any U l n n19 w' (hj.below hb))
  have HF := hd (sorted_order (tK l) n)
  clear hj
  have g1 : inR (0 : Int) 0 3 = true := rfl
  go_enter Try.func8, Try.ntmps8
  go_wp2_with (first
    | (go_at_call 20; refine HI.out.mono ?_; rintro e w1 ⟨rfl, hb1⟩)
    | (go_at_call 21; refine (within_t _ _ _ _ g1).mono ?_; rintro e w' ⟨rfl, hw⟩; subst hw)
    | (go_at_call 22; refine (HO.out _ hb1).mono ?_; rintro e w2 ⟨u, rfl, ho, hb2⟩))
  go_ret2
  exact ⟨u, _, rfl, own_mono ho hb1.size, HF.out.1, HF.out.2.1, HF.out.2.2.1, HF.out.2.2.2, below_tr hb2 hb1⟩
set_option maxHeartbeats 1000000 in
theorem OrderByD_any (U : Value) (l : List Q4) (n : Nat) (n19 : n ≤ 19) (w : World) (hj : JobsAt w U l n) :
    Calls Try.prog 8 #[U, .int .i64 1] w (OrderOut (dK l) n w) := by
  have HI := hd (AreJobs_any U l n w hj)
  have HO := hd (fun w' (hb : Below w.heap.size w w') => orderByD_any U l n n19 w' (hj.below hb))
  have HF := hd (sorted_order (dK l) n)
  clear hj
  have g1 : inR (1 : Int) 0 3 = true := rfl
  go_enter Try.func8, Try.ntmps8
  go_wp2_with (first
    | (go_at_call 20; refine HI.out.mono ?_; rintro e w1 ⟨rfl, hb1⟩)
    | (go_at_call 21; refine (within_t _ _ _ _ g1).mono ?_; rintro e w' ⟨rfl, hw⟩; subst hw)
    | (go_at_call 22; refine (HO.out _ hb1).mono ?_; rintro e w2 ⟨u, rfl, ho, hb2⟩))
  go_ret2
  exact ⟨u, _, rfl, own_mono ho hb1.size, HF.out.1, HF.out.2.1, HF.out.2.2.1, HF.out.2.2.2, below_tr hb2 hb1⟩
set_option maxHeartbeats 1000000 in
theorem OrderByW_any (U : Value) (l : List Q4) (n : Nat) (n19 : n ≤ 19) (h9 : ∀ q ∈ l, (1 ≤ q.a ∧ q.a ≤ 9) ∧ 0 ≤ q.d ∧ q.d ≤ 10000) (w : World) (hj : JobsAt w U l n) :
    Calls Try.prog 8 #[U, .int .i64 3] w (OrderOut (wK l) n w) := by
  have HI := hd (AreJobs_any U l n w hj)
  have HO := hd (fun w' (hb : Below w.heap.size w w') => orderByW_any U l n n19 h9 w' (hj.below hb))
  have HF := hd (sorted_order (wK l) n)
  clear hj
  have g1 : inR (3 : Int) 0 3 = true := rfl
  go_enter Try.func8, Try.ntmps8
  go_wp2_with (first
    | (go_at_call 20; refine HI.out.mono ?_; rintro e w1 ⟨rfl, hb1⟩)
    | (go_at_call 21; refine (within_t _ _ _ _ g1).mono ?_; rintro e w' ⟨rfl, hw⟩; subst hw)
    | (go_at_call 22; refine (HO.out _ hb1).mono ?_; rintro e w2 ⟨u, rfl, ho, hb2⟩))
  go_ret2
  exact ⟨u, _, rfl, own_mono ho hb1.size, HF.out.1, HF.out.2.1, HF.out.2.2.1, HF.out.2.2.2, below_tr hb2 hb1⟩
end Go.Proofs.Ytjddlgmdbkaieaa
