/- Going back along the arcs that last raised a node's time, in plain numbers: behind n rounds that all changed something the way back is told for n steps, and it is on a ring then. No program stands here. -/
import Derived.Test.YtclkgfcehmmgaaaPlain
import Derived.Test.YtclkgfcehmmgaaaBellT
namespace Go.Proofs.Ytclkgfcehmmgaaa.Plain

theorem pigeon (n : Nat) (g : Nat → Nat) (h : ∀ k, k ≤ n → g k < n) : ∃ i j, i < j ∧ j ≤ n ∧ g i = g j := by
  induction n generalizing g with
  | zero => have := h 0 (Nat.le_refl _); omega
  | succ n ih =>
    by_cases hx : ∃ i, i ≤ n ∧ g i = g (n + 1)
    · obtain ⟨i, hi, e⟩ := hx
      exact ⟨i, n + 1, by omega, Nat.le_refl _, e⟩
    · have hne : ∀ i, i ≤ n → g i ≠ g (n + 1) := fun i hi e => hx ⟨i, hi, e⟩
      obtain ⟨i, j, hij, hj, e⟩ := ih (fun k => if g (n + 1) < g k then g k - 1 else g k) (fun k hk => by
        have h1 := h k (by omega)
        have h2 := h (n + 1) (Nat.le_refl _)
        have h3 := hne k hk
        show (if g (n + 1) < g k then g k - 1 else g k) < n
        split <;> omega)
      refine ⟨i, j, hij, by omega, ?_⟩
      have h1 := hne i (by omega)
      have h2 := hne j hj
      change (if g (n + 1) < g i then g i - 1 else g i) = (if g (n + 1) < g j then g j - 1 else g j) at e
      split at e <;> split at e <;> omega
def itU (f : Nat → Nat) (v : Nat) : Nat → Nat
  | 0 => v
  | k + 1 => f (itU f v k)
theorem itU_per {f : Nat → Nat} {v i d : Nat} (h : itU f v (i + d) = itU f v i) (s : Nat) : itU f v (i + d + s) = itU f v (i + s) := by
  induction s with
  | zero => exact h
  | succ s ih => rw [← Nat.add_assoc, ← Nat.add_assoc, itU, itU, ih]
/-- all steps are told, and the way comes back to where it is behind n steps -/
theorem ring_back {n : Nat} {f : Nat → Nat} {v : Nat} {ok : Nat → Prop} (hn : ∀ k, k ≤ n → itU f v k < n) (hok : ∀ k, k < n → ok (itU f v k)) :
    (∀ s, ok (itU f v s)) ∧ ∃ d, 1 ≤ d ∧ d ≤ n ∧ itU f v (n + d) = itU f v n := by
  obtain ⟨i, j, hij, hj, e⟩ := pigeon n (itU f v) hn
  obtain ⟨d, rfl⟩ : ∃ d, j = i + d := ⟨j - i, by omega⟩
  have per := fun s => itU_per e.symm s
  have red : ∀ s, ∃ k, k < i + d ∧ itU f v s = itU f v k := by
    intro s
    induction s using Nat.strongRecOn with
    | ind s ih =>
      by_cases h : s < i + d
      · exact ⟨s, h, rfl⟩
      · obtain ⟨k, hk, e2⟩ := ih (s - d) (by omega)
        refine ⟨k, hk, ?_⟩
        rw [← e2]
        have := per (s - (i + d))
        rw [show i + d + (s - (i + d)) = s by omega, show i + (s - (i + d)) = s - d by omega] at this
        exact this
  refine ⟨fun s => ?_, d, by omega, by omega, ?_⟩
  · obtain ⟨k, hk, e2⟩ := red s
    rw [e2]
    exact hok k (by omega)
  · have := per (n - i)
    rw [show i + d + (n - i) = n + d by omega, show i + (n - i) = n by omega] at this
    exact this

/-- times, the arc that raised each node last (-1: none), and the round that did, one more (0: none) -/
structure BackS where
  t : List Int
  c : List Int
  m : List Nat
def relB (r : Nat) (s : BackS) (x : Nat × ArcT) : BackS :=
  if s.t.getD x.2.2.1 0 < s.t.getD x.2.1 0 + x.2.2.2 then ⟨s.t.set x.2.2.1 (s.t.getD x.2.1 0 + x.2.2.2), s.c.set x.2.2.1 (x.1 : Int), s.m.set x.2.2.1 (r + 1)⟩ else s
def rndB (as : List ArcT) (r : Nat) (s : BackS) : BackS := (as.zipIdx.map fun y => (y.2, y.1)).foldl (relB r) s
def tmB (as : List ArcT) (n : Nat) : Nat → BackS
  | 0 => ⟨List.replicate n 0, List.replicate n (-1), List.replicate n 0⟩
  | k + 1 => rndB as k (tmB as n k)
/-- where a node was raised from -/
def backF (as : List ArcT) (s : BackS) (v : Nat) : Nat := match as[(s.c.getD v 0).toNat]? with
  | some a => a.1
  | none => 0
theorem getD_setN {l : List Nat} {r r' : Nat} {y : Nat} : (l.set r y).getD r' 0 = if r = r' ∧ r < l.length then y else l.getD r' 0 := by
  simp only [List.getD_eq_getElem?_getD, List.getElem?_set]
  by_cases h : r = r'
  · subst h
    by_cases h2 : r < l.length
    · simp [h2]
    · simp [h2]
  · simp [h]
/-- what is known while round r runs: 'done' the arcs behind, 'rest' those ahead -/
structure BackInv (as : List ArcT) (n r : Nat) (dn rs : List (Nat × ArcT)) (s : BackS) : Prop where
  lt : s.t.length = n
  lc : s.c.length = n
  lm : s.m.length = n
  top : ∀ v, s.m.getD v 0 ≤ r + 1
  told : ∀ v, 1 ≤ s.m.getD v 0 → ∃ i a, s.c.getD v 0 = ((i : Nat) : Int) ∧ as[i]? = some a ∧ a.2.1 = v ∧ s.m.getD v 0 ≤ s.m.getD a.1 0 + 1
  old : ∀ x ∈ dn, r + 1 ≤ s.m.getD x.2.1 0 ∨ s.t.getD x.2.1 0 + x.2.2.2 ≤ s.t.getD x.2.2.1 0
  new : ∀ x ∈ rs, r ≤ s.m.getD x.2.1 0 ∨ s.t.getD x.2.1 0 + x.2.2.2 ≤ s.t.getD x.2.2.1 0
theorem backInv_step {as : List ArcT} {n r : Nat} {dn rs : List (Nat × ArcT)} {s : BackS} {x : Nat × ArcT} (hx : as[x.1]? = some x.2) (hu : x.2.1 < n) (hv : x.2.2.1 < n) (h : BackInv as n r dn (x :: rs) s) : BackInv as n r (dn ++ [x]) rs (relB r s x) := by
  obtain ⟨h1, h2, h3, h4, h5, h6, h7⟩ := h
  unfold relB
  split
  · rename_i hc
    have hm : r ≤ s.m.getD x.2.1 0 := by
      rcases h7 x (by simp) with h | h
      · exact h
      · omega
    have mono : ∀ v, s.m.getD v 0 ≤ (s.m.set x.2.2.1 (r + 1)).getD v 0 := by
      intro v
      rw [getD_setN]
      split
      · exact h4 v
      · omega
    have self : (s.m.set x.2.2.1 (r + 1)).getD x.2.2.1 0 = r + 1 := by rw [getD_setN, if_pos ⟨rfl, by omega⟩]
    have keep : ∀ y : Nat × ArcT, ∀ q, q ≤ r + 1 → (q ≤ s.m.getD y.2.1 0 ∨ s.t.getD y.2.1 0 + y.2.2.2 ≤ s.t.getD y.2.2.1 0) →
        (q ≤ (s.m.set x.2.2.1 (r + 1)).getD y.2.1 0 ∨ (s.t.set x.2.2.1 (s.t.getD x.2.1 0 + x.2.2.2)).getD y.2.1 0 + y.2.2.2 ≤ (s.t.set x.2.2.1 (s.t.getD x.2.1 0 + x.2.2.2)).getD y.2.2.1 0) := by
      intro y q hq hy
      by_cases e : y.2.1 = x.2.2.1
      · left; rw [e, self]; exact hq
      · rcases hy with hy | hy
        · exact .inl (Nat.le_trans hy (mono _))
        · right
          rw [getD_setI, if_neg (fun e2 => e e2.1.symm), getD_setI]
          split
          · rename_i e2; rw [← e2.1] at hy; omega
          · exact hy
    refine ⟨by simpa using h1, by simpa using h2, by simpa using h3, fun v => ?_, fun v hv1 => ?_, fun y hy => ?_, fun y hy => keep y r (by omega) (h7 y (by simp [hy]))⟩
    · show (s.m.set x.2.2.1 (r + 1)).getD v 0 ≤ r + 1
      rw [getD_setN]; split
      · omega
      · exact h4 v
    · change 1 ≤ (s.m.set x.2.2.1 (r + 1)).getD v 0 at hv1
      show ∃ i a, (s.c.set x.2.2.1 (x.1 : Int)).getD v 0 = ((i : Nat) : Int) ∧ as[i]? = some a ∧ a.2.1 = v ∧ (s.m.set x.2.2.1 (r + 1)).getD v 0 ≤ (s.m.set x.2.2.1 (r + 1)).getD a.1 0 + 1
      by_cases e : x.2.2.1 = v
      · subst e
        refine ⟨x.1, x.2, by rw [getD_setI, if_pos ⟨rfl, by omega⟩], hx, rfl, ?_⟩
        rw [self]
        have := mono x.2.1
        omega
      · rw [getD_setN, if_neg (fun e2 => e e2.1)] at hv1
        obtain ⟨i, a, e1, e2, e3, e4⟩ := h5 v hv1
        refine ⟨i, a, by rw [getD_setI, if_neg (fun e2 => e e2.1)]; exact e1, e2, e3, ?_⟩
        have hk : (s.m.set x.2.2.1 (r + 1)).getD v 0 = s.m.getD v 0 := by rw [getD_setN, if_neg (fun e2 => e e2.1)]
        rw [hk]
        have := mono a.1
        omega
    · rcases List.mem_append.1 hy with hy | hy
      · exact keep y (r + 1) (by omega) (h6 y hy)
      · have e : y = x := by simpa using hy
        subst e
        by_cases e2 : y.2.1 = y.2.2.1
        · left
          show r + 1 ≤ (s.m.set y.2.2.1 (r + 1)).getD y.2.1 0
          rw [e2, self]; exact Nat.le_refl _
        · right
          show (s.t.set y.2.2.1 (s.t.getD y.2.1 0 + y.2.2.2)).getD y.2.1 0 + y.2.2.2 ≤ (s.t.set y.2.2.1 (s.t.getD y.2.1 0 + y.2.2.2)).getD y.2.2.1 0
          rw [getD_setI, if_neg (fun e3 => e2 e3.1.symm), getD_setI, if_pos ⟨rfl, by omega⟩]
          omega
  · rename_i hc
    refine ⟨h1, h2, h3, h4, h5, fun y hy => ?_, fun y hy => h7 y (by simp [hy])⟩
    rcases List.mem_append.1 hy with hy | hy
    · exact h6 y hy
    · have e : y = x := by simpa using hy
      subst e
      right
      omega
/-- the arcs with their places -/
def idxA (as : List ArcT) : List (Nat × ArcT) := as.zipIdx.map fun y => (y.2, y.1)
theorem idxA_get {as : List ArcT} {x : Nat × ArcT} (h : x ∈ idxA as) : as[x.1]? = some x.2 := by
  simp only [idxA, List.mem_map] at h
  obtain ⟨y, hy, rfl⟩ := h
  exact List.mem_zipIdx_iff_getElem?.1 hy
theorem relB_t (r : Nat) (s : BackS) (x : Nat × ArcT) : (relB r s x).t = relA s.t x.2 := by unfold relB relA; split <;> rfl
theorem rndB_t (as : List ArcT) (r : Nat) (s : BackS) : (rndB as r s).t = rndA as s.t := by
  unfold rndB rndA
  suffices h : ∀ (k : Nat) (l : List ArcT) (s : BackS), (((l.zipIdx k).map fun y => (y.2, y.1)).foldl (relB r) s).t = l.foldl relA s.t from h 0 as s
  intro k l
  induction l generalizing k with
  | nil => intro s; rfl
  | cons a l ih =>
    intro s
    rw [List.zipIdx_cons, List.map_cons, List.foldl_cons, List.foldl_cons, ih, relB_t]
theorem tmB_t (as : List ArcT) (n k : Nat) : (tmB as n k).t = tmA as n k := by
  induction k with
  | zero => rfl
  | succ k ih => rw [tmB, rndB_t, ih, tmA]
theorem backInv_fold {as : List ArcT} {n r : Nat} (hv : ∀ a ∈ as, a.1 < n ∧ a.2.1 < n) (rs : List (Nat × ArcT)) : ∀ (dn : List (Nat × ArcT)) (s : BackS), (∀ x ∈ rs, as[x.1]? = some x.2) → BackInv as n r dn rs s → BackInv as n r (dn ++ rs) [] (rs.foldl (relB r) s) := by
  induction rs with
  | nil => intro dn s _ h; simpa using h
  | cons x rs ih =>
    intro dn s hm h
    have hx := hm x (by simp)
    have hb := hv _ (List.mem_of_getElem? hx)
    have h1 := ih (dn ++ [x]) (relB r s x) (fun y hy => hm y (by simp [hy])) (backInv_step hx hb.1 hb.2 h)
    rw [List.foldl_cons]
    simpa using h1
theorem backInv_all {as : List ArcT} {n : Nat} (hv : ∀ a ∈ as, a.1 < n ∧ a.2.1 < n) (k : Nat) : BackInv as n k [] (idxA as) (tmB as n k) := by
  induction k with
  | zero =>
    have hz : ∀ v, (List.replicate n 0 : List Nat).getD v 0 = 0 := by
      intro v; rw [List.getD_eq_getElem?_getD, List.getElem?_replicate]; split <;> rfl
    refine ⟨by simp [tmB], by simp [tmB], by simp [tmB], fun v => ?_, fun v h => ?_, fun x h => by simp at h, fun x _ => .inl (Nat.zero_le _)⟩
    · show (List.replicate n 0 : List Nat).getD v 0 ≤ _
      rw [hz]; omega
    · change 1 ≤ (List.replicate n 0 : List Nat).getD v 0 at h
      rw [hz] at h; omega
  | succ k ih =>
    have h := backInv_fold hv (idxA as) [] (tmB as n k) (fun x hx => idxA_get hx) ih
    obtain ⟨h1, h2, h3, h4, h5, h6, _⟩ := h
    exact ⟨h1, h2, h3, fun v => by have := h4 v; exact Nat.le_succ_of_le this, h5, fun x hx => by simp at hx, fun x hx => h6 x (by simpa using hx)⟩
/-- a node raised in the last of K rounds: the way back is told, step by step, and comes back to where it is behind n steps -/
theorem back_ring {as : List ArcT} {n K : Nat} (hn : 1 ≤ n) (hK : n ≤ K) (hv : ∀ a ∈ as, a.1 < n ∧ a.2.1 < n) {v : Nat} (hvn : v < n) (hm : (tmB as n K).m.getD v 0 = K) :
    (∀ s, ∃ (i : Nat) (a : ArcT), (tmB as n K).c.getD (itU (backF as (tmB as n K)) v s) 0 = (i : Int) ∧ as[i]? = some a ∧ a.2.1 = itU (backF as (tmB as n K)) v s ∧ a.1 = itU (backF as (tmB as n K)) v (s + 1)) ∧
    ∃ d, 1 ≤ d ∧ d ≤ n ∧ itU (backF as (tmB as n K)) v (n + d) = itU (backF as (tmB as n K)) v n := by
  have I := backInv_all hv K
  generalize tmB as n K = S at *
  have hstep : ∀ x, 1 ≤ S.m.getD x 0 → ∃ (i : Nat) (a : ArcT), S.c.getD x 0 = (i : Int) ∧ as[i]? = some a ∧ a.2.1 = x ∧ a.1 = backF as S x ∧ S.m.getD x 0 ≤ S.m.getD a.1 0 + 1 := by
    intro x hx
    obtain ⟨i, a, e1, e2, e3, e4⟩ := I.told x hx
    refine ⟨i, a, e1, e2, e3, ?_, e4⟩
    rw [backF, e1, Int.toNat_natCast, e2]
  have key : ∀ j, j ≤ n → itU (backF as S) v j < n ∧ K ≤ S.m.getD (itU (backF as S) v j) 0 + j := by
    intro j
    induction j with
    | zero => intro _; exact ⟨hvn, by rw [itU, hm]; omega⟩
    | succ j ih =>
      intro hj
      obtain ⟨h1, h2⟩ := ih (by omega)
      obtain ⟨i, a, _, e2, _, e4, e5⟩ := hstep _ (show 1 ≤ S.m.getD (itU (backF as S) v j) 0 by omega)
      rw [itU, ← e4]
      exact ⟨(hv a (List.mem_of_getElem? e2)).1, by omega⟩
  obtain ⟨r1, r2⟩ := ring_back (f := backF as S) (v := v) (ok := fun x => 1 ≤ S.m.getD x 0) (fun k hk => (key k hk).1) (fun k hk => by have := (key k (by omega)).2; omega)
  refine ⟨fun s => ?_, r2⟩
  obtain ⟨i, a, e1, e2, e3, e4, _⟩ := hstep _ (r1 s)
  exact ⟨i, a, e1, e2, e3, e4⟩
end Go.Proofs.Ytclkgfcehmmgaaa.Plain
