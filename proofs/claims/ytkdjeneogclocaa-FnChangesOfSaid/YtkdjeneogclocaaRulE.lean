/- Ends of jobs in an order, what they cost, and plans. No program stands here. -/
import Derived.Test.YtkdjeneogclocaaWords
import Derived.Test.YtkdjeneogclocaaRulT
import Derived.Test.YtkdjeneogclocaaSortT
namespace Go.Proofs.Ytkdjeneogclocaa.Plain
set_option linter.unusedVariables false
set_option linter.unusedSimpArgs false
def jobOk (q : Q4) : Prop := (1 ≤ q.a ∧ q.a ≤ 10000) ∧ (0 ≤ q.b ∧ q.b ≤ 10000) ∧ (0 ≤ q.c ∧ q.c ≤ 10000) ∧ (0 ≤ q.d ∧ q.d ≤ 10000)
def jobAt (l : List Q4) (i : Nat) : Q4 := l.getD i ⟨1, 0, 0, 0⟩
theorem jobAt_ok {l : List Q4} (h : ∀ q ∈ l, jobOk q) (i : Nat) : jobOk (jobAt l i) := by
  rw [jobAt, List.getD_eq_getElem?_getD]
  rcases Nat.lt_or_ge i l.length with h1 | h1
  · rw [List.getElem?_eq_getElem h1, Option.getD_some]; exact h _ (List.getElem_mem h1)
  · rw [List.getElem?_eq_none h1, Option.getD_none]; exact ⟨⟨by decide, by decide⟩, ⟨by decide, by decide⟩, ⟨by decide, by decide⟩, by decide, by decide⟩
theorem jobAt_at {l : List Q4} {i : Nat} {q : Q4} (h : l[i]? = some q) : jobAt l i = q := by rw [jobAt, List.getD_eq_getElem?_getD, h]; rfl
/-- the order that a list tells -/
def ordF (d : List Int) (k : Nat) : Nat := (d.getD k 0).toNat
theorem perm_of {d : List Int} {n : Nat} (hl : d.length = n) (h1 : inL n d) (h2 : oneL d) : Perm (ordF d) n :=
  ⟨fun k hk => by have := h1 k (by omega); rw [ordF]; omega, fun a b ha hb e => h2 a b (by omega) (by omega) (by
    have := h1 a (by omega); have := h1 b (by omega); rw [ordF, ordF] at e; omega)⟩
theorem perm_in {d : List Int} {n : Nat} (hl : d.length = n) (h : ∀ k, k < n → 0 ≤ d.getD k 0) (hp : Perm (ordF d) n) : inL n d ∧ oneL d :=
  ⟨fun k hk => by have := h k (by omega); have := hp.lt k (by omega); rw [ordF] at this; omega, fun a b ha hb e => hp.inj a b (by omega) (by omega) (by rw [ordF, ordF, e])⟩
/-- when the job in place k - 1 ends -/
def endF (l : List Q4) (g : Nat → Nat) : Nat → Int
  | 0 => 0
  | k + 1 => max (endF l g k) (jobAt l (g k)).b + (jobAt l (g k)).a
theorem endF_bd {l : List Q4} (h : ∀ q ∈ l, jobOk q) (g : Nat → Nat) (k : Nat) : 0 ≤ endF l g k ∧ endF l g k ≤ 10000 * ((k : Int) + 1) := by
  induction k with
  | zero => exact ⟨Int.le_refl _, by simp [endF]⟩
  | succ k ih =>
    have := jobAt_ok h (g k)
    rw [jobOk] at this
    rw [endF]; push_cast; omega
/-- the ends by job, the first k jobs of the order told -/
def endsL (l : List Q4) (g : Nat → Nat) (n : Nat) : Nat → List Int
  | 0 => List.replicate n 0
  | k + 1 => (endsL l g n k).set (g k) (endF l g (k + 1))
theorem endsL_len (l : List Q4) (g : Nat → Nat) (n k : Nat) : (endsL l g n k).length = n := by
  induction k with
  | zero => simp [endsL]
  | succ k ih => simp [endsL, ih]
theorem endsL_at (l : List Q4) {g : Nat → Nat} {n : Nat} (hg : Perm g n) (k : Nat) (hk : k ≤ n) (j : Nat) (hj : j < k) : (endsL l g n k).getD (g j) 0 = endF l g (j + 1) := by
  induction k with
  | zero => omega
  | succ k ih =>
    rw [endsL, set_at _ _ _ _ (by rw [endsL_len]; exact hg.lt k (by omega))]
    by_cases e : g j = g k
    · rw [if_pos e, hg.inj j k (by omega) (by omega) e]
    · rw [if_neg e]
      exact ih (by omega) (by
        have : j ≠ k := fun e2 => e (by rw [e2])
        omega)
theorem endsL_bd {l : List Q4} (h : ∀ q ∈ l, jobOk q) {g : Nat → Nat} {n : Nat} (hg : ∀ k, k < n → g k < n) (k : Nat) (hk : k ≤ n) (hn : n ≤ 24) (j : Nat) : 0 ≤ (endsL l g n k).getD j 0 ∧ (endsL l g n k).getD j 0 ≤ 250000 := by
  induction k with
  | zero =>
    rw [endsL, List.getD_eq_getElem?_getD, List.getElem?_replicate]
    split <;> simp
  | succ k ih =>
    rw [endsL, set_at _ _ _ _ (by rw [endsL_len]; exact hg k (by omega))]
    split
    · have := endF_bd h g (k + 1); push_cast at this; omega
    · exact ih (by omega)
def shareF (kind : Nat) (q : Q4) (e : Int) : Int :=
  if kind = 0 then e else if kind = 1 then q.d * e else if kind = 2 then e - q.c else if kind = 3 then q.d * max 0 (e - q.c) else if q.c < e then 1 else 0
def topF (kind : Nat) : Bool := kind == 0 || kind == 2
def bothF (kind : Nat) (a b : Int) : Int := if topF kind then max a b else a + b
def costF (kind : Nat) (l : List Q4) (x : List Int) : Nat → Int
  | 0 => shareF kind (jobAt l 0) (x.getD 0 0)
  | k + 1 => bothF kind (costF kind l x k) (shareF kind (jobAt l (k + 1)) (x.getD (k + 1) 0))
theorem share_bd {kind : Nat} {q : Q4} {e : Int} (hq : jobOk q) (h0 : 0 ≤ e) (h1 : e ≤ 250000) : -10000 ≤ shareF kind q e ∧ shareF kind q e ≤ 2500000000 := by
  rw [jobOk] at hq
  obtain ⟨_, _, ⟨c0, c1⟩, d0, d1⟩ := hq
  have m1 := Int.mul_nonneg d0 h0
  have m2 : q.d * e ≤ 10000 * 250000 := Int.le_trans (Int.mul_le_mul_of_nonneg_right d1 h0) (Int.mul_le_mul_of_nonneg_left h1 (by omega))
  have h2 : 0 ≤ max 0 (e - q.c) := by omega
  have h3 : max 0 (e - q.c) ≤ 250000 := by omega
  have m3 := Int.mul_nonneg d0 h2
  have m4 : q.d * max 0 (e - q.c) ≤ 10000 * 250000 := Int.le_trans (Int.mul_le_mul_of_nonneg_right d1 h2) (Int.mul_le_mul_of_nonneg_left h3 (by omega))
  rw [shareF]
  split
  · omega
  split
  · omega
  split
  · omega
  split
  · omega
  split <;> omega
theorem costF_bd {kind : Nat} {l : List Q4} {x : List Int} (h : ∀ q ∈ l, jobOk q) (hx : ∀ j, 0 ≤ x.getD j 0 ∧ x.getD j 0 ≤ 250000) (k : Nat) : -10000 * ((k : Int) + 1) ≤ costF kind l x k ∧ costF kind l x k ≤ 2500000000 * ((k : Int) + 1) := by
  induction k with
  | zero => have := share_bd (kind := kind) (jobAt_ok h 0) (hx 0).1 (hx 0).2; rw [costF]; omega
  | succ k ih =>
    have := share_bd (kind := kind) (jobAt_ok h (k + 1)) (hx (k + 1)).1 (hx (k + 1)).2
    rw [costF, bothF]; push_cast
    split <;> omega
/-- what an order costs -/
def costO (kind : Nat) (l : List Q4) (g : Nat → Nat) (n : Nat) : Int := costF kind l (endsL l g n n) (n - 1)
theorem costO_bd {kind : Nat} {l : List Q4} {g : Nat → Nat} {n : Nat} (h : ∀ q ∈ l, jobOk q) (hg : ∀ k, k < n → g k < n) (hn : n ≤ 24) : -250000 ≤ costO kind l g n ∧ costO kind l g n ≤ 62500000000 := by
  have := costF_bd (kind := kind) h (fun j => endsL_bd h hg n (Nat.le_refl _) hn j) (n - 1)
  rw [costO]; omega
theorem cost_one (l : List Q4) (x : List Int) (k : Nat) : costF 1 l x k = sumN (fun i => (jobAt l i).d * x.getD i 0) (k + 1) := by
  induction k with
  | zero => simp [costF, shareF, sumN]
  | succ k ih => rw [costF, ih]; rw [show sumN (fun i => (jobAt l i).d * x.getD i 0) (k + 1 + 1) = sumN (fun i => (jobAt l i).d * x.getD i 0) (k + 1) + (jobAt l (k + 1)).d * x.getD (k + 1) 0 from rfl]; simp [bothF, topF, shareF]
theorem cost_top (kind : Nat) (h : topF kind = true) (l : List Q4) (x : List Int) (k : Nat) : (∀ i, i ≤ k → shareF kind (jobAt l i) (x.getD i 0) ≤ costF kind l x k) ∧ ∃ i, i ≤ k ∧ costF kind l x k = shareF kind (jobAt l i) (x.getD i 0) := by
  induction k with
  | zero => exact ⟨fun i hi => by rw [show i = 0 by omega]; exact Int.le_refl _, 0, Nat.le_refl _, rfl⟩
  | succ k ih =>
    obtain ⟨h1, i, hi, e⟩ := ih
    rw [costF, bothF, if_pos h]
    refine ⟨fun j hj => ?_, ?_⟩
    · by_cases ej : j = k + 1
      · subst ej; omega
      · have := h1 j (by omega); omega
    · by_cases hc : costF kind l x k ≤ shareF kind (jobAt l (k + 1)) (x.getD (k + 1) 0)
      · exact ⟨k + 1, Nat.le_refl _, by omega⟩
      · exact ⟨i, by omega, by omega⟩
/-- jobs that may begin at once -/
def freeL (l : List Q4) (n : Nat) : Prop := ∀ i, i < n → (jobAt l i).b = 0
theorem endF_free {l : List Q4} (h : ∀ q ∈ l, jobOk q) {n : Nat} (hf : freeL l n) {g : Nat → Nat} (hg : ∀ k, k < n → g k < n) (k : Nat) (hk : k ≤ n) : endF l g k = sumN (fun m => (jobAt l (g m)).a) k := by
  induction k with
  | zero => rfl
  | succ k ih =>
    have := (endF_bd h g k).1
    rw [endF, hf _ (hg k (by omega)), sumN, ← ih (by omega)]; omega
theorem sum_ends {l : List Q4} {g : Nat → Nat} {n : Nat} (hg : Perm g n) (F : Nat → Int → Int) : sumN (fun i => F i ((endsL l g n n).getD i 0)) n = sumN (fun k => F (g k) (endF l g (k + 1))) n := by
  rw [← sum_perm n g hg (fun i => F i ((endsL l g n n).getD i 0))]
  exact sumN_eq fun k hk => by rw [endsL_at l hg n (Nat.le_refl _) k hk]
theorem cost_smith {l : List Q4} (h : ∀ q ∈ l, jobOk q) {n : Nat} (n1 : 1 ≤ n) (hf : freeL l n) {g : Nat → Nat} (hg : Perm g n) : costO 1 l g n = costS (fun i => (jobAt l i).d) (fun i => (jobAt l i).a) g n := by
  rw [costO, cost_one, show n - 1 + 1 = n by omega, sum_ends hg (fun i e => (jobAt l i).d * e), costS]
  exact sumN_eq fun k hk => by rw [endF_free h hf hg.lt (k + 1) (by omega)]
/-- the order by weights is best -/
theorem best_one {l : List Q4} (h : ∀ q ∈ l, jobOk q) {n : Nat} (n1 : 1 ≤ n) (hf : freeL l n) {o q : Nat → Nat} (ho : Perm o n) (hq : Perm q n) (hs : ∀ a b, a < b → b < n → (jobAt l (o b)).d * (jobAt l (o a)).a ≤ (jobAt l (o a)).d * (jobAt l (o b)).a) : costO 1 l o n ≤ costO 1 l q n := by
  rw [cost_smith h n1 hf ho, cost_smith h n1 hf hq]
  exact smith _ _ ho hq hs
/-- the order by due ends is best -/
theorem best_two {l : List Q4} (h : ∀ q ∈ l, jobOk q) {n : Nat} (n1 : 1 ≤ n) (hf : freeL l n) {o q : Nat → Nat} (ho : Perm o n) (hq : Perm q n) (hs : ∀ a b, a < b → b < n → (jobAt l (o a)).c ≤ (jobAt l (o b)).c) : costO 2 l o n ≤ costO 2 l q n := by
  obtain ⟨i, hi, e⟩ := (cost_top 2 rfl l (endsL l o n n) (n - 1)).2
  obtain ⟨k, hk, ek⟩ := ho.onto i (by omega)
  obtain ⟨m, hm, hle⟩ := edd (fun i => (jobAt l i).a) (fun i => (jobAt l i).c) (fun i hi => by have := jobAt_ok h i; rw [jobOk] at this; omega) ho hq hs k hk
  have h2 := (cost_top 2 rfl l (endsL l q n n) (n - 1)).1 (q m) (by have := hq.lt m hm; omega)
  rw [costO, costO, e, ← ek]
  refine Int.le_trans ?_ h2
  rw [endsL_at l ho n (Nat.le_refl _) k hk, endsL_at l hq n (Nat.le_refl _) m hm, endF_free h hf ho.lt (k + 1) (by omega), endF_free h hf hq.lt (m + 1) (by omega)]
  simp only [shareF]
  exact hle
/-- how long the jobs are there, in all -/
def flowO (l : List Q4) (g : Nat → Nat) (n : Nat) : Nat → Int
  | 0 => 0
  | k + 1 => flowO l g n k + ((endsL l g n n).getD k 0 - (jobAt l k).b)
theorem flowO_sum (l : List Q4) (g : Nat → Nat) (n k : Nat) : flowO l g n k = sumN (fun i => (endsL l g n n).getD i 0 - (jobAt l i).b) k := by
  induction k with
  | zero => rfl
  | succ k ih => rw [flowO, ih, sumN]
theorem flowO_bd {l : List Q4} (h : ∀ q ∈ l, jobOk q) {g : Nat → Nat} {n : Nat} (hg : ∀ k, k < n → g k < n) (hn : n ≤ 24) (k : Nat) : -10000 * (k : Int) ≤ flowO l g n k ∧ flowO l g n k ≤ 250000 * (k : Int) := by
  induction k with
  | zero => simp [flowO]
  | succ k ih =>
    have := endsL_bd h hg n (Nat.le_refl _) hn k
    have h2 := jobAt_ok h k
    rw [jobOk] at h2
    rw [flowO]; push_cast; omega
theorem flow_free {l : List Q4} (h : ∀ q ∈ l, jobOk q) {n : Nat} (hf : freeL l n) {g : Nat → Nat} (hg : Perm g n) : flowO l g n n = costS (fun _ => 1) (fun i => (jobAt l i).a) g n := by
  rw [flowO_sum, sumN_eq (g := fun i => (fun _ e => e) i ((endsL l g n n).getD i 0)) (fun k hk => by rw [hf k hk]; simp), sum_ends hg (fun _ e => e), costS]
  exact sumN_eq fun k hk => by rw [endF_free h hf hg.lt (k + 1) (by omega)]; simp
theorem best_flow {l : List Q4} (h : ∀ q ∈ l, jobOk q) {n : Nat} (hf : freeL l n) {o q : Nat → Nat} (ho : Perm o n) (hq : Perm q n) (hs : ∀ a b, a < b → b < n → (jobAt l (o a)).a ≤ (jobAt l (o b)).a) : flowO l o n n ≤ flowO l q n n := by
  rw [flow_free h hf ho, flow_free h hf hq]
  exact smith _ _ ho hq (fun a b h1 h2 => by simp only [Int.one_mul]; exact hs a b h1 h2)
theorem sumN_bd {f : Nat → Int} {n : Nat} {M : Int} (h : ∀ k, k < n → 0 ≤ f k ∧ f k ≤ M) : 0 ≤ sumN f n ∧ sumN f n ≤ M * n := by
  induction n with
  | zero => simp [sumN]
  | succ n ih =>
    have a := ih (fun k hk => h k (by omega))
    have b := h n (by omega)
    rw [sumN]; push_cast; rw [Int.mul_add, Int.mul_one]; omega
/-- small jobs: the sum is small -/
theorem flow_small {l : List Q4} (h : ∀ q ∈ l, jobOk q) {n : Nat} (hn : n ≤ 8) (hf : freeL l n) (h9 : ∀ q ∈ l, q.a ≤ 9) {g : Nat → Nat} (hg : Perm g n) : 0 ≤ flowO l g n n ∧ flowO l g n n ≤ 324 := by
  have h9' : ∀ i, (jobAt l i).a ≤ 9 := fun i => by
    rw [jobAt, List.getD_eq_getElem?_getD]
    rcases Nat.lt_or_ge i l.length with h1 | h1
    · rw [List.getElem?_eq_getElem h1, Option.getD_some]; exact h9 _ (List.getElem_mem h1)
    · rw [List.getElem?_eq_none h1, Option.getD_none]; decide
  rw [flow_free h hf hg, costS]
  have bd := fun k => sumN_bd (f := fun m => (jobAt l (g m)).a) (n := k + 1) (M := 9) (fun m _ => ⟨by have := jobAt_ok h (g m); rw [jobOk] at this; omega, h9' _⟩)
  have a := sumN_bd (f := fun k => 1 * sumN (fun m => (jobAt l (g m)).a) (k + 1)) (n := n) (M := 72) (fun k hk => by
    have b := bd k
    push_cast at b
    rw [Int.one_mul]; omega)
  have b : sumN (fun k => 1 * sumN (fun m => (jobAt l (g m)).a) (k + 1)) n ≤ sumN (fun k => 9 * ((k : Int) + 1)) n := sumN_le fun k hk => by
    have b := (bd k).2
    push_cast at b
    rw [Int.one_mul]; exact b
  have c : ∀ n, n ≤ 8 → sumN (fun k => 9 * ((k : Int) + 1)) n ≤ 324 := by decide
  have := c n hn
  omega
end Go.Proofs.Ytkdjeneogclocaa.Plain
