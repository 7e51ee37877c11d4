/- MatchSkills of the program: what the law asks of its answer. -/
import Derived.Test.YtfeehfmiicleaaaProg
import Derived.Test.YtfeehfmiicleaaaMatI
import Derived.Test.YtfeehfmiicleaaaMatF
import Derived.Test.YtfeehfmiicleaaaSkills
namespace Go.Proofs.Ytfeehfmiicleaaa
open Go.RowKit Plain
set_option linter.unusedVariables false
set_option linter.unusedSimpArgs false
theorem countP_set {l : List Int} {r : Nat} {k : Int} (hr : r < l.length) (h : l.getD r 0 < 0) (hk : 0 ≤ k) : (l.set r k).countP (fun x => decide (0 ≤ x)) = l.countP (fun x => decide (0 ≤ x)) + 1 := by
  induction l generalizing r with
  | nil => simp at hr
  | cons a l ih =>
    cases r with
    | zero =>
      have h' : a < 0 := by simpa using h
      simp only [List.set_cons_zero, List.countP_cons]
      rw [if_pos (by simpa using hk), if_neg (by simp; omega)]
    | succ r =>
      have := ih (r := r) (by simpa using hr) (by simpa using h)
      simp only [List.set_cons_succ, List.countP_cons, this]
      omega
/-- the answer behind the first k columns -/
structure OutOk (po : List Int) (rows p k : Nat) : Prop where
  lo : ∀ r, r < rows → -1 ≤ (outM po rows k).1.getD r 0 ∧ (outM po rows k).1.getD r 0 < k
  back : ∀ r, r < rows → 0 ≤ (outM po rows k).1.getD r 0 → po.getD ((outM po rows k).1.getD r 0).toNat 0 = (r : Int)
  hit : ∀ c, c < k → ∀ r : Nat, po.getD c 0 = (r : Int) → (outM po rows k).1.getD r 0 = (c : Int)
  cnt : (outM po rows k).1.countP (fun x => decide (0 ≤ x)) = (outM po rows k).2
theorem out_ok {f : Nat → Nat → Bool} {rows p : Nat} {po : List Int} (h : Full f p rows po) (k : Nat) (hk : k ≤ p) : OutOk po rows p k := by
  induction k with
  | zero =>
    have e : ∀ r, r < rows → (outM po rows 0).1.getD r 0 = -1 := fun r hr => by
      rw [outM, List.getD_eq_getElem?_getD, List.getElem?_replicate, if_pos hr]; rfl
    refine ⟨fun r hr => by rw [e r hr]; omega, fun r hr h => by rw [e r hr] at h; omega, fun c hc => by omega, ?_⟩
    rw [outM]
    simp
  | succ k ih =>
    have o := ih (by omega)
    have hb := h.bd k (by omega)
    by_cases hn : po.getD k 0 < 0
    · rw [show OutOk po rows p (k + 1) ↔ OutOk po rows p (k + 1) from Iff.rfl]
      have e := outM_no (rows := rows) hn
      refine ⟨fun r hr => by rw [e]; have := o.lo r hr; omega, fun r hr => by rw [e]; exact o.back r hr, fun c hc r he => ?_, by rw [e]; exact o.cnt⟩
      rw [e]
      rcases Nat.lt_or_ge c k with h1 | h1
      · exact o.hit c h1 r he
      · obtain rfl : c = k := by omega
        omega
    · obtain ⟨x, hx⟩ := Int.eq_ofNat_of_zero_le (show 0 ≤ po.getD k 0 by omega)
      have hxr : x < rows := by omega
      have e := outM_yes (rows := rows) hx
      have hlen := outM_len po rows k
      have G := fun r => set_get (outM po rows k).1 x r (k : Int) 0 (by omega)
      have hun : (outM po rows k).1.getD x 0 < 0 := by
        rcases Int.lt_or_le ((outM po rows k).1.getD x 0) 0 with h1 | h1
        · exact h1
        · exfalso
          have h2 := o.back x hxr h1
          have h3 := o.lo x hxr
          exact h.inj k ((outM po rows k).1.getD x 0).toNat (by omega) (by omega) (by omega) (by omega) (by rw [hx, h2])
      refine ⟨fun r hr => ?_, fun r hr => ?_, fun c hc r he => ?_, ?_⟩
      · rw [e]
        show -1 ≤ ((outM po rows k).1.set x (k : Int)).getD r 0 ∧ ((outM po rows k).1.set x (k : Int)).getD r 0 < ((k + 1 : Nat) : Int)
        rw [G]
        have := o.lo r hr
        split <;> omega
      · rw [e]
        show 0 ≤ ((outM po rows k).1.set x (k : Int)).getD r 0 → po.getD (((outM po rows k).1.set x (k : Int)).getD r 0).toNat 0 = (r : Int)
        rw [G]
        split
        · rename_i e1
          subst e1
          intro _
          rw [Int.toNat_natCast]
          exact hx
        · exact o.back r hr
      · rw [e]
        show ((outM po rows k).1.set x (k : Int)).getD r 0 = (c : Int)
        rw [G]
        rcases Nat.lt_or_ge c k with h1 | h1
        · split
          · rename_i e1
            subst e1
            have := o.hit c h1 r he
            omega
          · exact o.hit c h1 r he
        · obtain rfl : c = k := by omega
          rw [if_pos (by rw [hx] at he; omega)]
      · rw [e]
        show ((outM po rows k).1.set x (k : Int)).countP (fun x => decide (0 ≤ x)) = (outM po rows k).2 + 1
        rw [countP_set (by omega) hun (by omega), o.cnt]
def MatchOut (people tasks : List Int) (w : World) (r : Ending) (w' : World) : Prop :=
  ∃ (out : List Int) (u : Value), r = .returned (.tuple #[u, .int .i64 (out.countP (fun x => decide (0 ≤ x)) : Nat), .bool true]) ∧ out.length = tasks.length ∧ (∀ i, i < tasks.length → -1 ≤ out.getD i 0 ∧ out.getD i 0 < people.length) ∧
    (∀ i, i < tasks.length → 0 ≤ out.getD i 0 → fitM tasks people i (out.getD i 0).toNat = true ∧ ∀ j, j < i → out.getD j 0 ≠ out.getD i 0) ∧
    (∀ i k, i < tasks.length → out.getD i 0 < 0 → k < people.length → fitM tasks people i k = true → ∃ j, j < tasks.length ∧ out.getD j 0 = (k : Int)) ∧ w'.ownsRow w.heap.size 2 1 u tasks.length (out.map vi) ∧ Below w.heap.size w w'
theorem match_any (w : World) (v u : Value) (people tasks : List Int) (hp : skB people = true) (ht : skB tasks = true) (s : Sl w 1 v people.length (people.map vi)) (s2 : Sl w 1 u tasks.length (tasks.map vi)) :
    Calls Try.prog 11 #[v, u] w (MatchOut people tasks w) := by
  have bd : ∀ l : List Int, skB l = true → l.length ≤ 12 ∧ ∀ x ∈ l, I64 x := fun l h => by
    simp only [skB, manyIn, Bool.and_eq_true, decide_eq_true_eq, List.all_eq_true] at h
    exact ⟨by omega, fun x hx => by have := inR_iff.1 (h.2.2 x hx); exact ⟨by omega, by omega⟩⟩
  obtain ⟨p1, p2⟩ := bd people hp
  obtain ⟨t1, t2⟩ := bd tasks ht
  have h := MatI.impl_any w v people p2 (by omega) s u tasks t2 (by omega) s2
  rw [MatI.M_yes (by rw [MatI.okK, hp, ht]; rfl)] at h
  have hF := mat_full (fitM tasks people) people.length tasks.length
  have hO := out_ok hF people.length (Nat.le_refl _)
  refine h.mono fun r w' hq => ?_
  obtain ⟨z, rfl, ho, hB⟩ := hq
  dsimp only at ho
  rw [outM_len] at ho
  refine ⟨(outM (MatI.ofK people tasks) tasks.length people.length).1, z, ?_, outM_len _ _ _, hO.lo, fun i hi h0 => ⟨?_, fun j hj he => ?_⟩, fun i k hi h0 hk hf => ?_, ho, hB⟩
  · rw [show (outM (MatI.ofK people tasks) tasks.length people.length).1.countP (fun x => decide (0 ≤ x)) = (outM (MatI.ofK people tasks) tasks.length people.length).2 from hO.cnt]
  · have h0' : 0 ≤ (outM (matM (fitM tasks people) people.length tasks.length) tasks.length people.length).1.getD i 0 := h0
    have h1 := hO.back i hi h0'
    have h2 := hO.lo i hi
    have h3 := hF.fit ((outM (matM (fitM tasks people) people.length tasks.length) tasks.length people.length).1.getD i 0).toNat (by omega) (by rw [h1]; omega)
    rw [h1, Int.toNat_natCast] at h3
    exact h3
  · have h1 := hO.back i hi h0
    have h2 := hO.back j (by omega) (by
      show 0 ≤ (outM (MatI.ofK people tasks) tasks.length people.length).1.getD j 0
      rw [he]; exact h0)
    have h3 : (outM (matM (fitM tasks people) people.length tasks.length) tasks.length people.length).1.getD j 0 = (outM (matM (fitM tasks people) people.length tasks.length) tasks.length people.length).1.getD i 0 := he
    rw [h3, h1] at h2
    omega
  · rcases hF.max i hi with ⟨j, hj, e⟩ | h
    · have := hO.hit j hj i e
      have h1 : (outM (matM (fitM tasks people) people.length tasks.length) tasks.length people.length).1.getD i 0 < 0 := h0
      omega
    · have h1 := h k hk hf
      have h2 := hF.bd k hk
      obtain ⟨x, hx⟩ := Int.eq_ofNat_of_zero_le h1
      exact ⟨x, by omega, hO.hit k hk x hx⟩
end Go.Proofs.Ytfeehfmiicleaaa
